/- The contracts of an agreement's object: what it holds, and what is asked of all. · The contracts of an agreement's object: the beginning, the end, and what is fixed. · The contracts of an agreement's object: how it begins, and how it judges what was asked. · The contracts of an agreement's object: how it judges what was fixed. · The contracts of an agreement's methods: Take, Tick, Done. · What is to be shown of each function, in its normal form.  · What the laws of an agreement share: what is too much, and the document's example. -/
import Derived.Test.YtajkbeifgghpmaaGreatProg
import Derived.Test.YtajkbeifgghpmaaGreatCPk06
set_option linter.unusedVariables false
set_option maxRecDepth 100000
namespace Go.Agr
open Go.Vx Go.Vc Go.Proofs Go.Pln Go.Stl
open Go.Rnd (takesG insG froms againG RdS Both OkM AscG)
theorem rest_upd (H : PHeap) (k : Nat) (o : Obj) : rest (H.upd k o) [k] = rest H [k] := funext fun q => by
  by_cases h : q = k
  · rw [h, rest_none (by simp), rest_none (by simp)]
  · rw [rest_at (by simpa using h), rest_at (by simpa using h), Vx.upd_ne _ _ h]
/-- A call that is made without a variable leaves it. -/
theorem callR {P : Program} {f : FuncId} {args : Array Value} {H : PHeap} {k : Nat} {t : TypeId} {l : List Value} {Q : Value → PHeap → Prop} (h : Triple P f args (rest H [k]) Q) (hb : Bx H k t l) :
    Triple P f args H fun v H' => ∃ G, Q v G ∧ Sub G (rest H' [k]) ∧ Bx H' k t l :=
  (h.frame (rest_sub H [k])).mono fun _ _ ⟨G, h1, h2, h3⟩ => by
    obtain ⟨h4, h5⟩ := h3 k _ hb (rest_none (by simp))
    exact ⟨G, h1, rest_le h2 (by simpa using h5), h4⟩
def idsN (j : Nat) : List Int := (List.range j).map fun i : Nat => (i : Int) + 1
theorem idsN_succ (j : Nat) : idsN (j + 1) = idsN j ++ [(j : Int) + 1] := by simp [idsN, List.range_succ]
theorem idsN_len (j : Nat) : (idsN j).length = j := by simp [idsN]
abbrev GivesI (l : List Int) (H : PHeap) (v : Value) (H' : PHeap) : Prop := ∃ b n c, v = .slice b n c ∧ OwnL H' 3 iE 1 b n c l ∧ Sub H H' ∧ Off H b
theorem planAll1_ok {H : PHeap} {k : Nat} {p : Plan} (hp : p.ok = true) (hb : Bx H k 23 [vI p.n, vI p.t, vI p.l, vI p.w, vI p.s, vI p.r]) : Triple Tryz.prog 120 #[.pointer (at0 k)] H (GivesI (ids p) H) := by
  have pok := Plan.ok_iff.1 hp
  have h1 := pok.n1
  have h2 := pok.n2
  refine planAll1.vc (at0 k) H _ ⟨obP k, p.n, hb.fld rfl, fun t H' => match t with | [.slice b m q, .int _ i] => 0 ≤ i ∧ i ≤ p.n ∧ OwnL H' 3 iE 1 b m q (idsN i.toNat) ∧ Sub H H' ∧ Off H b | _ => False, fun t _ => match t with | [_, .int _ i] => (p.n - i).toNat | _ => 0, ⟨by omega, by omega, Owns.nil _ _ 1, Sub.refl _, Off.none _⟩, ?_⟩
  rintro b m q i H9 ⟨i0, i1, ho, hs, hoff⟩
  obtain ⟨i, rfl⟩ : ∃ j : Nat, i = j := ⟨i.toNat, by omega⟩
  rw [Int.toNat_natCast] at ho
  refine ⟨fun hi k10 hk10 => ?_, fun hi => ?_⟩
  · have hi' : (i : Int) < p.n := by simpa using hi
    have hml := (ho.rd (E := iE) (sz := 1) (by omega) Rnd.iLen).len
    rw [idsN_len] at hml
    rw [Rnd.wrapS (by omega) (by omega)]
    refine append_one Rnd.tI (E := iE) (x := (i : Int) + 1) hk10 Rnd.iLen ho rfl (Rnd.iOne _) (by simp [maxLen]; omega) (by omega) ?_
    intro b' q' H' how hf hfr _
    refine ⟨b', m + 1, q', rfl, ⟨by omega, by omega, ?_, hf.sub hs hoff, hfr.off hs hoff⟩, ⟨by simp only; omega⟩⟩
    rw [show ((i : Int) + 1).toNat = i + 1 by omega, idsN_succ]; exact how
  · have hi' : ¬ (i : Int) < p.n := by simpa using hi
    rw [show i = p.n.toNat by omega] at ho
    exact ⟨b, m, q, rfl, ho, hs, hoff⟩
theorem planAll_ok {H : PHeap} {p : Plan} (hp : p.ok = true) : Triple Tryz.prog 85 #[p.v] H (GivesI (ids p) H) := by
  refine planAll.vc p.n p.t p.l p.w p.s p.r H _ fun k7 hk7 => ?_
  have hs := Sub.upd (.cells #[vI p.n, vI p.t, vI p.l, vI p.w, vI p.s, vI p.r] 23 (0, 0)) hk7
  have hb := Bx.new H k7 23 [vI p.n, vI p.t, vI p.l, vI p.w, vI p.s, vI p.r]
  refine ⟨p.n, p.t, p.l, p.w, p.s, p.r, hb.reads, planOfL.vc p.n p.t p.l p.w p.s p.r _ _ _ ((right_ok p).use ⟨_, rfl, fun e => ?_, fun e => CallY.fn (by kernel_rfl) ((planAll1_ok hp hb).mono ?_)⟩)⟩
  · rw [hp] at e; cases e
  · rintro _ H' ⟨b, n, c, rfl, h1, h2, h3⟩
    exact ⟨_, _, _, rfl, _, _, _, rfl, b, n, c, rfl, h1, hs.trans h2, h3.sub hs⟩
theorem refPAll_ok {H : PHeap} {p : Plan} (hp : p.ok = true) : Triple Tryz.prog 28 #[p.v] H (GivesI (ids p) H) := by
  have pok := Plan.ok_iff.1 hp
  have h1 := pok.n1
  have h2 := pok.n2
  refine refPAll.vc p.n p.t p.l p.w p.s p.r H _ ⟨fun t H' => match t with | [.slice b m q, .int _ i] => 1 ≤ i ∧ i ≤ p.n + 1 ∧ OwnL H' 3 iE 1 b m q (idsN (i.toNat - 1)) ∧ Sub H H' ∧ Off H b | _ => False, fun t _ => match t with | [_, .int _ i] => (p.n + 1 - i).toNat | _ => 0, ⟨by omega, by omega, Owns.nil _ _ 1, Sub.refl _, Off.none _⟩, ?_⟩
  rintro b m q i H9 ⟨i0, i1, ho, hs, hoff⟩
  obtain ⟨i, rfl⟩ : ∃ j : Nat, i = (j : Int) + 1 := ⟨i.toNat - 1, by omega⟩
  rw [show ((i : Int) + 1).toNat - 1 = i by omega] at ho
  refine ⟨fun hi k10 hk10 => ?_, fun hi => ?_⟩
  · have hi' : (i : Int) + 1 ≤ p.n := by simpa using hi
    have hml := (ho.rd (E := iE) (sz := 1) (by omega) Rnd.iLen).len
    rw [idsN_len] at hml
    rw [Rnd.wrapS (i := (i : Int) + 1) (by omega) (by omega)]
    refine append_one Rnd.tI (E := iE) (x := (i : Int) + 1) hk10 Rnd.iLen ho rfl (Rnd.iOne _) (by simp [maxLen]; omega) (by omega) ?_
    intro b' q' H' how hf hfr _
    refine ⟨b', m + 1, q', rfl, ⟨by omega, by omega, ?_, hf.sub hs hoff, hfr.off hs hoff⟩, ⟨by simp only; omega⟩⟩
    rw [show ((i : Int) + 1 + 1).toNat - 1 = i + 1 by omega, idsN_succ]; exact how
  · have hi' : ¬ (i : Int) + 1 ≤ p.n := by simpa using hi
    rw [show i = p.n.toNat by omega] at ho
    exact ⟨b, m, q, rfl, ho, hs, hoff⟩
/-- What lies in an agreement beside its state. -/
structure AV where
  r : Option Addr
  j : Value
  h : Option Addr
  hn : Nat
  hc : Nat
  a : Option Addr
  an : Nat
  ac : Nat
  s : Option Addr
  sn : Nat
  sc : Nat
abbrev cellsA (s : St) (x : AV) : List Value :=
  [vI s.p.n, vI s.p.t, vI s.p.l, vI s.p.w, vI s.p.s, vI s.p.r, vI s.ballot, .string s.name, .bool s.force, .bool s.live, .bool s.over, vI s.mark, .pointer x.r, x.j,
   .bool s.ok, .bool s.fixed, .bool s.value.pr, vI s.value.at_, vI s.value.ep, vI s.value.sz, .slice x.h x.hn x.hc, .slice x.a x.an x.ac, .slice x.s x.sn x.sc]
abbrev tAg : TypeId := 115
def toAll (b : Int) (nm : ByteArray) (m : Msg) (l : List Int) : List Msg := l.map fun i => (m.1, m.2.1, i, b, nm, m.2.2.2.2.2)
theorem toAll_snoc (b : Int) (nm : ByteArray) (m : Msg) (l : List Int) (i : Int) : toAll b nm m (l ++ [i]) = toAll b nm m l ++ [(m.1, m.2.1, i, b, nm, m.2.2.2.2.2)] := by simp [toAll]
theorem toAll_len (b : Int) (nm : ByteArray) (m : Msg) (l : List Int) : (toAll b nm m l).length = l.length := by simp [toAll]
theorem agAll_ok {H : PHeap} {k : Nat} {s : St} {x : AV} {m : Msg} (hp : s.p.ok = true) (hb : Bx H k tAg (cellsA s x)) :
    Triple Tryz.prog 94 #[.pointer (at0 k), vM m] H fun v H' => ∃ b n c F1 kr, v = .slice b n c ∧ RdL F1 mE 13 b n (askAll s.p s.ballot s.name m) ∧ Sub (rest H [k]) F1 ∧
      RdS F1 (rest H' [k]) kr (askAll s.p s.ballot s.name m) (ids s.p) [] (maxI s.p.r 0) ∧ Bx H' k tAg (cellsA s { x with r := at0 kr }) := by
  have pok := Plan.ok_iff.1 hp
  have pn1 := pok.n1
  have pn2 := pok.n2
  obtain ⟨y1, y2, y3, y4, y5, y6, y7, y8, y9, y10, ⟨ya, yb, yc, yl⟩, ⟨za, zb, zc, zl⟩, ⟨wa, wb, wc, wl⟩⟩ := m
  refine agAll.vc (at0 k) y1 y2 y3 y4 y5 y6 y7 y8 y9 y10 ya yb yc za zb zc wa wb wc H _ fun k21 hk21 => ?_
  let M : Int → Int → ByteArray → Msg := fun t b nm => (y1, y2, t, b, nm, y6, y7, y8, y9, y10, ⟨ya, yb, yc, yl⟩, ⟨za, zb, zc, zl⟩, ⟨wa, wb, wc, wl⟩)
  have b0 : Bx (H.upd k21 (.cells (mE (M y3 y4 y5)).toArray 52 (0, 0))) k21 52 (mE (M y3 y4 y5)) := Bx.new _ _ _ _
  have s0 : Sub H (H.upd k21 (.cells (mE (M y3 y4 y5)).toArray 52 (0, 0))) := Sub.upd _ hk21
  have w25 := b0.put (i := 3) (x := vI s.ballot) (by show 3 < 13; decide)
  have b25 : Bx ((H.upd k21 (.cells (mE (M y3 y4 y5)).toArray 52 (0, 0))).upd k21 (.cells (mE (M y3 s.ballot y5)).toArray 52 (0, 0))) k21 52 (mE (M y3 s.ballot y5)) := Bx.new _ _ _ _
  have s25 : Sub H ((H.upd k21 (.cells (mE (M y3 y4 y5)).toArray 52 (0, 0))).upd k21 (.cells (mE (M y3 s.ballot y5)).toArray 52 (0, 0))) := s0.wr hk21
  refine ⟨H, s0, obP k, obP k, _, hb.fld rfl, obP k, obP k, _, hb.fld rfl, obP k21, _, w25, s25, obP k21, ?_⟩
  generalize hH25 : (H.upd k21 (.cells (mE (M y3 y4 y5)).toArray 52 (0, 0))).upd k21 (.cells (mE (M y3 s.ballot y5)).toArray 52 (0, 0)) = H25 at b25 s25
  have w26 := b25.put (i := 4) (x := .string s.name) (by show 4 < 13; decide)
  have b26 : Bx (H25.upd k21 (.cells (mE (M y3 s.ballot s.name)).toArray 52 (0, 0))) k21 52 (mE (M y3 s.ballot s.name)) := Bx.new _ _ _ _
  have s26 : Sub H (H25.upd k21 (.cells (mE (M y3 s.ballot s.name)).toArray 52 (0, 0))) := s25.wr hk21
  refine ⟨H25.upd k21 (.cells (mE (M y3 s.ballot s.name)).toArray 52 (0, 0)), by rw [← hH25] at w26 ⊢; exact w26, obP k, obP k, ?_⟩
  generalize H25.upd k21 (.cells (mE (M y3 s.ballot s.name)).toArray 52 (0, 0)) = H26 at b26 s26 ⊢
  have rp : ∀ {G : PHeap}, Sub H G → Reads G (fldA (at0 k) 0) [vI s.p.n, vI s.p.t, vI s.p.l, vI s.p.w, vI s.p.s, vI s.p.r] := fun hs => (hb.sub hs).readsAt 0 fun j v hv => by
    match j, hv with
    | 0, hv => exact hv
    | 1, hv => exact hv
    | 2, hv => exact hv
    | 3, hv => exact hv
    | 4, hv => exact hv
    | 5, hv => exact hv
    | j + 6, hv => simp at hv
  refine ⟨_, _, _, _, _, _, rp s26, (planAll_ok hp).mono ?_⟩
  rintro _ H34 ⟨b35, n36, c37, rfl, o35, s34, f35⟩
  have hids := o35.rd (E := iE) (sz := 1) (by omega) Rnd.iLen
  have hidl := hids.len
  rw [ids_len] at hidl
  have hne35 := f35.ne b26
  have hidr := hids.rest (ks := [k21]) fun a ha => by simpa using hne35 a ha
  have b34 := b26.sub s34
  have sH : Sub H (rest H34 [k21]) := rest_le (s26.trans s34) (by simpa using hk21)
  refine ⟨_, _, _, rfl, fun t H' => match t with | [.slice b mm q, .int _ i] => 0 ≤ i ∧ i ≤ n36 ∧ Sub (rest H34 [k21]) H' ∧ (∃ t, Bx H' k21 52 (mE (M t s.ballot s.name))) ∧ OwnL H' 52 mE 13 b mm q (toAll s.ballot s.name (M y3 y4 y5) ((ids s.p).take i.toNat)) ∧ Off (rest H34 [k21]) b ∧ ∀ a, b = some a → a.block ≠ k21 | _ => False, fun t _ => match t with | [_, .int _ i] => (n36 - i).toNat | _ => 0, ⟨by omega, by omega, rest_sub _ _, ⟨y3, b34⟩, Owns.nil _ _ 13, Off.none _, fun a h => by cases h⟩, ?_⟩
  rintro b mm q i H44 ⟨i0, i1, s44, ⟨t, b44⟩, ho, hoff, hne⟩
  obtain ⟨i, rfl⟩ : ∃ j : Nat, i = j := ⟨i.toNat, by omega⟩
  rw [Int.toNat_natCast] at ho
  have hml := (ho.rd (E := mE) (sz := 13) (by omega) Rnd.mLen).len
  rw [toAll_len, List.length_take, ids_len] at hml
  refine ⟨fun hi => ?_, fun hi => ?_⟩
  · have hi' : i < n36 := by simpa using hi
    have hid44 := hidr.mono s44
    obtain ⟨z, hz, hzr⟩ := hid44.ex (i := (i : Int)) (by omega) (by omega)
    rw [Int.toNat_natCast] at hz
    have w46 := b44.put (i := 2) (x := vI z) (by show 2 < 13; decide)
    have b46 : Bx (H44.upd k21 (.cells (mE (M z s.ballot s.name)).toArray 52 (0, 0))) k21 52 (mE (M z s.ballot s.name)) := Bx.new _ _ _ _
    have s46 : Sub (rest H34 [k21]) (H44.upd k21 (.cells (mE (M z s.ballot s.name)).toArray 52 (0, 0))) := s44.wr (rest_none (by simp))
    have ho46 : OwnL (H44.upd k21 (.cells (mE (M z s.ballot s.name)).toArray 52 (0, 0))) 52 mE 13 b mm q (toAll s.ballot s.name (M y3 y4 y5) ((ids s.p).take i)) := ho.mono fun a o ha h => by rw [Vx.upd_ne _ _ (hne a ha)]; exact h
    rw [Rnd.wrapS (by omega) (by omega)]
    refine ⟨hid44.ob (by omega) (by omega), z, hzr, obP k21, _, w46, ?_⟩
    have hw46 : H44.upd k21 (.cells ((mE (M t s.ballot s.name)).set 2 (vI z)).toArray 52 (0, 0)) = H44.upd k21 (.cells (mE (M z s.ballot s.name)).toArray 52 (0, 0)) := rfl
    rw [hw46]
    generalize H44.upd k21 (.cells (mE (M z s.ballot s.name)).toArray 52 (0, 0)) = H46 at b46 s46 ho46 ⊢
    refine ⟨_, _, _, _, _, _, _, _, _, _, _, _, _, _, _, _, _, _, _, b46.reads, fun k66 hk66 => ?_⟩
    refine append_one Rnd.tM (E := mE) (x := M z s.ballot s.name) hk66 Rnd.mLen ho46 rfl (Rnd.mOne _) (by simp [maxLen]; omega) (by omega) ?_
    intro b' q' H' how hf hfr _
    refine ⟨b', mm + 1, q', rfl, ⟨by omega, by omega, hf.sub s46 hoff, ⟨z, hf.bx b46 hne⟩, ?_, hfr.off s46 hoff, hfr.ne b46 hne⟩, ⟨by simp only; omega⟩⟩
    rw [show ((i : Int) + 1).toNat = i + 1 by omega, List.take_add_one, hz]
    exact (toAll_snoc s.ballot s.name (M y3 y4 y5) _ z).symm ▸ how
  · have hi' : ¬ i < n36 := by simpa using hi
    rw [List.take_of_length_le (by rw [ids_len]; omega)] at ho
    have s44H := sH.trans s44
    refine ⟨H, s44H, obP k, obP k, obP k, _, hb.fld (i := 5) rfl, obP k, obP k, _, _, _, _, _, _, rp (Sub.refl _), (planAll_ok hp).mono ?_⟩
    rintro _ H81 ⟨b82, n83, c84, rfl, o82, s81, f82⟩
    have hb44 := hb.sub s44H
    have hb81 := hb44.sub s81
    have hne82 := f82.ne hb44
    have hbne : ∀ a, b = some a → a.block ≠ k := Off.ne hoff (o := .cells (cellsA s x).toArray tAg (0, 0)) (hb.sub sH)
    have r1 := ((ho.rd (E := mE) (sz := 13) (by omega) Rnd.mLen).mono s81).rest (ks := [k]) fun a ha => by simpa using hbne a ha
    have r2 := (o82.rd (E := iE) (sz := 1) (by omega) Rnd.iLen).rest (ks := [k]) fun a ha => by simpa using hne82 a ha
    have l2 := r2.len
    rw [ids_len] at l2
    refine ⟨_, _, _, rfl, s44H.trans s81, (callR (Rnd.new_ok (tries := s.p.r) r1 r2 (by omega) (by omega)) hb81).mono ?_⟩
    rintro _ H86 ⟨G, ⟨kr, F', rfl, hR, hF'⟩, hG, hb86⟩
    have w88 := hb86.put (i := 12) (x := .pointer (at0 kr)) (by show 12 < 23; decide)
    refine ⟨_, rfl, obP k, obP k, _, w88, b, mm, q, F', kr, rfl, ?_, ?_, ?_, Bx.new _ _ _ _⟩
    · exact r1.mono hF'
    · refine Sub.trans ?_ hF'
      exact rest_le ((rest_sub H [k]).trans (s44H.trans s81)) (by simpa using rest_none (by simp))
    · rw [rest_upd]; exact hR.mono hG
end Go.Agr
namespace Go.Agr
open Go.Vx Go.Vc Go.Proofs Go.Pln Go.Stl
open Go.Rnd (takesG insG froms againG RdS Both OkM AscG)
abbrev tRd : TypeId := 119
theorem rest_mono {H H' : PHeap} {ks : List Nat} (h : Sub H H') : Sub (rest H ks) (rest H' ks) := ⟨fun q o hq => by
  by_cases hm : q ∈ ks
  · rw [rest_none hm] at hq; cases hq
  · rw [rest_at hm] at hq ⊢; exact h.le _ _ hq⟩
/-- What is known beside a round grows. -/
theorem RdS_grow {F H H2 : PHeap} {k : Nat} {asks : List Msg} {wait : List Int} {got : List (Int × Msg)} {tries : Int} (h : RdS F H k asks wait got tries) (hs : Sub H H2) : RdS (grow F H H2) H2 k asks wait got tries := by
  obtain ⟨oa, n, c, ob, m, d, gb, h1, h2, h3, h4, h5, h6, h7, h8⟩ := h.row
  obtain ⟨es, c', g1, _⟩ := h4.out
  exact ⟨grow_sub h.sub hs, grow_off h1 h.off, oa, n, c, ob, m, d, gb, h1.sub hs, h2.mono (grow_le h.sub), h3.mono (grow_le h.sub), h4.mono fun o ho => hs.le _ _ ho, grow_off g1 h5, h6, h7, h8⟩
theorem rd_grow {α : Type} {F H H2 : PHeap} {E : α → List Value} {sz : Nat} {oa : Option Addr} {n : Nat} {l : List α} (h : RdL H2 E sz oa n l) (ho : Off H oa) : RdL (grow F H H2) E sz oa n l :=
  h.part fun a o ha hb => by rw [grow_at (ho a ha)]; exact hb
theorem RdS_bx {F H : PHeap} {k : Nat} {asks : List Msg} {wait : List Int} {got : List (Int × Msg)} {tries : Int} (h : RdS F H k asks wait got tries) : ∃ l, Bx H k tRd l := by
  obtain ⟨oa, n, c, ob, m, d, gb, h1, _⟩ := h.row
  exact ⟨_, h1⟩
structure SlA (F : PHeap) (s : St) (x : AV) : Prop where
  h : RdL F iE 1 x.h x.hn s.holders
  a : RdL F iE 1 x.a x.an s.acks
  s : RdL F mE 13 x.s x.sn s.said
theorem SlA.mono {F F' : PHeap} {s : St} {x : AV} (h : SlA F s x) (hs : Sub F F') : SlA F' s x := ⟨h.h.mono hs, h.a.mono hs, h.s.mono hs⟩
def jv (fixed : Bool) : Value := if fixed then .func (Fn.func 165) #[] #[] else .func (Fn.func 93) #[] #[]
structure Inv (F : PHeap) (s : St) : Prop where
  pok : s.p.ok = true
  wt : s.wait = ids s.p
  gin : ∀ m ∈ s.G, from_ m ∈ ids s.p
  asc : AscG s.G
  okG : ∀ m ∈ s.G, OkM F m
  okS : ∀ m ∈ s.said, OkM F m
theorem asc_len : ∀ (l : List Int) (lo hi : Int), lo ≤ hi → l.Pairwise (· < ·) → (∀ x ∈ l, lo < x ∧ x ≤ hi) → (l.length : Int) ≤ hi - lo
  | [], lo, hi, h, _, _ => by simp; omega
  | x :: l, lo, hi, h, hp, hx => by
    have h1 := hx x (by simp)
    rw [List.pairwise_cons] at hp
    have := asc_len l x hi h1.2 hp.2 fun y hy => ⟨hp.1 y hy, (hx y (by simp [hy])).2⟩
    rw [List.length_cons]
    omega
theorem ids_mem {p : Plan} {i : Int} (h : i ∈ ids p) : 0 < i ∧ i ≤ p.n := by
  obtain ⟨j, hj, rfl⟩ := List.mem_map.1 h
  rw [List.mem_range] at hj
  omega
theorem Inv.len {F : PHeap} {s : St} (h : Inv F s) : s.G.length ≤ 256 := by
  have pok := Plan.ok_iff.1 h.pok
  have := asc_len (froms s.G) 0 s.p.n (by have := pok.n1; omega) h.asc fun x hx => by
    obtain ⟨m, hm, rfl⟩ := List.mem_map.1 hx
    exact ids_mem (h.gin m hm)
  rw [List.length_map] at this
  have := pok.n2
  omega
structure AgK (F H : PHeap) (k kr : Nat) (s : St) : Prop where
  off : F k = none
  inv : Inv F s
  row : ∃ F1 got x, x.r = at0 kr ∧ x.j = jv s.fixed ∧ Sub F F1 ∧ RdS F1 (rest H [k]) kr s.asks s.wait got s.tries ∧ Both got s.G ∧ Bx H k tAg (cellsA s x) ∧ SlA F1 s x
abbrev AgS (F H : PHeap) (k : Nat) (s : St) : Prop := ∃ kr, AgK F H k kr s
theorem AgK.sub {F H : PHeap} {k kr : Nat} {s : St} (h : AgK F H k kr s) : Sub F H := by
  obtain ⟨_, _, F1, got, x, _, _, h1, h2, _⟩ := h
  exact h1.trans (h2.sub.trans (rest_sub _ _))
/-- The round it had is known, and it is another one just if something begins to be fixed. -/
def Moved (s : St) (k0 : Nat) (t : St) (k1 : Nat) (H : PHeap) : Prop := (∃ l, Bx H k0 tRd l) ∧ (!decide (k1 = k0)) = (t.fixed != s.fixed)
/-- What a judgement leaves and says. -/
abbrev Judged (F : PHeap) (k kr : Nat) (s : St) (r : St × List Msg) (v : Value) (H' : PHeap) : Prop := ∃ b n c kr', v = .slice b n c ∧ RdL H' mE 13 b n r.2 ∧ AgK F H' k kr' r.1 ∧ Moved s kr r.1 kr' H' ∧ (s.over = false → r.1.over = true → v = .slice none 0 0)
theorem Moved.stay {F H : PHeap} {k kr : Nat} {s t : St} (h : AgK F H k kr t) (hf : t.fixed = s.fixed) : Moved s kr t kr H := by
  obtain ⟨_, _, F1, got, x, _, _, h1, h2, _⟩ := h
  obtain ⟨l, hl⟩ := RdS_bx h2
  exact ⟨⟨l, hl.sub (rest_sub _ _)⟩, by rw [hf]; simp⟩
theorem end_ok {F H : PHeap} {k kr : Nat} {s : St} {ok : Bool} (h : AgK F H k kr s) : Triple Tryz.prog 69 #[.pointer (at0 k), .bool ok] H fun v H' => v = .slice none 0 0 ∧ AgK F H' k kr (s.end_ ok) := by
  obtain ⟨h1, h2, F1, got, x, h3, h4, h5, h6, h7, h8, h9⟩ := h
  have w1 := h8.put (i := 10) (x := .bool true) (by show 10 < 23; decide)
  have b1 : Bx (H.upd k (.cells (cellsA { s with over := true } x).toArray tAg (0, 0))) k tAg (cellsA { s with over := true } x) := Bx.new _ _ _ _
  have w2 := b1.put (i := 14) (x := .bool ok) (by show 14 < 23; decide)
  have r1 : rest (H.upd k (.cells (cellsA { s with over := true } x).toArray tAg (0, 0))) [k] = rest H [k] := rest_upd _ _ _
  refine agEnd.vc (at0 k) ok H _ ⟨obP k, obP k, H.upd k (.cells (cellsA { s with over := true } x).toArray tAg (0, 0)), w1, obP k, obP k, ⟨by simp [at0, fldA]⟩, ?_⟩
  generalize H.upd k (.cells (cellsA { s with over := true } x).toArray tAg (0, 0)) = H1 at w2 b1 r1 ⊢
  refine ⟨H1.upd k (.cells (cellsA (s.end_ ok) x).toArray tAg (0, 0)), w2, rfl, h1, ⟨h2.pok, h2.wt, h2.gin, h2.asc, h2.okG, h2.okS⟩, F1, got, x, h3, h4, h5, ?_, h7, Bx.new _ _ _ _, ⟨h9.h, h9.a, h9.s⟩⟩
  rw [rest_upd, r1]; exact h6
theorem obF (k i : Nat) : Ob (fldA (at0 k) i ≠ none) := ⟨by simp [at0, fldA]⟩
theorem fixM_ok {F F2 H : PHeap} {k : Nat} {s : St} {x : AV} {v : Val} (hk : F k = none) (hp : s.p.ok = true) (hS : ∀ m ∈ s.said, OkM F m) (hF : Sub F F2) (hF2 : Sub F2 (rest H [k])) (hb : Bx H k tAg (cellsA s x)) (hsl : SlA F2 s x) :
    Triple Tryz.prog 136 #[.pointer (at0 k), v.v] H fun w H' => ∃ b n c kr F1, w = .slice b n c ∧ Sub F F1 ∧ RdL F1 mE 13 b n (s.fix v).2 ∧ AgK F1 H' k kr (s.fix v).1 ∧ AgK F H' k kr (s.fix v).1 ∧ (rest H [k]) kr = none ∧ Sub (rest H [k]) (rest H' [k]) := by
  have w7 := hb.put (i := 15) (x := .bool true) (by show 15 < 23; decide)
  have b7 : Bx (H.upd k (.cells (cellsA { s with fixed := true } x).toArray tAg (0, 0))) k tAg (cellsA { s with fixed := true } x) := Bx.new _ _ _ _
  have r7 : rest (H.upd k (.cells (cellsA { s with fixed := true } x).toArray tAg (0, 0))) [k] = rest H [k] := rest_upd _ _ _
  refine agFixM.vc (at0 k) v.pr v.at_ v.ep v.sz H _ ⟨rest H [k], rest_sub _ _, obP k, obP k, obF k 14, H.upd k (.cells (cellsA { s with fixed := true } x).toArray tAg (0, 0)), w7, by rw [← r7]; exact rest_sub _ _, obP k, obP k, obF k 14, ?_⟩
  generalize H.upd k (.cells (cellsA { s with fixed := true } x).toArray tAg (0, 0)) = H7 at b7 r7 ⊢
  have w8 := (b7.writes (cellsA { s with fixed := true, value := v } x) rfl).part (A := (cellsA s x).take 14 ++ [.bool s.ok, .bool true]) (l2 := v.c) (B := (cellsA s x).drop 20) (old := s.value.c) b7.reads rfl
  have b8 : Bx (H7.upd k (.cells (cellsA { s with fixed := true, value := v } x).toArray tAg (0, 0))) k tAg (cellsA { s with fixed := true, value := v } x) := Bx.new _ _ _ _
  have r8 : rest (H7.upd k (.cells (cellsA { s with fixed := true, value := v } x).toArray tAg (0, 0))) [k] = rest H [k] := by rw [rest_upd]; exact r7
  refine ⟨H7.upd k (.cells (cellsA { s with fixed := true, value := v } x).toArray tAg (0, 0)), w8, obP k, obP k, ?_⟩
  generalize H7.upd k (.cells (cellsA { s with fixed := true, value := v } x).toArray tAg (0, 0)) = H8 at b8 r8 ⊢
  have w9 := b8.put (i := 13) (x := jv true) (by show 13 < 23; decide)
  have b9 : Bx (H8.upd k (.cells (cellsA { s with fixed := true, value := v } { x with j := jv true }).toArray tAg (0, 0))) k tAg (cellsA { s with fixed := true, value := v } { x with j := jv true }) := Bx.new _ _ _ _
  have r9 : rest (H8.upd k (.cells (cellsA { s with fixed := true, value := v } { x with j := jv true }).toArray tAg (0, 0))) [k] = rest H [k] := by rw [rest_upd]; exact r8
  refine ⟨H8.upd k (.cells (cellsA { s with fixed := true, value := v } { x with j := jv true }).toArray tAg (0, 0)), w9, obP k, obP k, ?_⟩
  generalize H8.upd k (.cells (cellsA { s with fixed := true, value := v } { x with j := jv true }).toArray tAg (0, 0)) = H9 at b9 r9 ⊢
  have fin : ∀ {H17 : PHeap}, Sub H9 H17 → Triple Tryz.prog 94 #[.pointer (at0 k), Rnd.vM (mfix s.mark v)] H17 fun w H' => ∃ a n c, w = .slice a n c ∧ ∃ b n' c' kr F1, Value.slice a n c = .slice b n' c' ∧ Sub F F1 ∧ RdL F1 mE 13 b n' (s.fix v).2 ∧ AgK F1 H' k kr (s.fix v).1 ∧ AgK F H' k kr (s.fix v).1 ∧ (rest H [k]) kr = none ∧ Sub (rest H [k]) (rest H' [k]) := fun hs17 => by
    refine (agAll_ok (s := { s with fixed := true, value := v }) (x := { x with j := jv true }) (m := mfix s.mark v) hp (b9.sub hs17)).mono ?_
    rintro _ H' ⟨b, n, c, F1, kr, rfl, hrd, hF1, hR, hb'⟩
    have hs1 : Sub (rest H [k]) F1 := by rw [← r9]; exact (rest_mono hs17).trans hF1
    have hsl1 := hsl.mono (hF2.trans hs1)
    have hF1' := hF.trans (hF2.trans hs1)
    refine ⟨b, n, c, rfl, b, n, c, kr, F1, rfl, hF1', hrd, ⟨hR.sub.none (rest_none (by simp)), ⟨hp, rfl, (fun m hm => by cases hm), List.Pairwise.nil, (fun m hm => by cases hm), fun m hm => (hS m hm).mono hF1'⟩, F1, [], _, rfl, rfl, Sub.refl _, hR, Rnd.Both.nil, hb', ⟨hsl1.h, hsl1.a, hsl1.s⟩⟩,
      ⟨hk, ⟨hp, rfl, (fun m hm => by cases hm), List.Pairwise.nil, (fun m hm => by cases hm), hS⟩, F1, [], _, rfl, rfl, hF1', hR, Rnd.Both.nil, hb', ⟨hsl1.h, hsl1.a, hsl1.s⟩⟩, hs1.none hR.off, hs1.trans hR.sub⟩
  refine ⟨s.mark, b9.fld rfl, fun k11 hk11 => ?_⟩
  let z : List Value := [vI 0, vI 0, vI 0, vI 0, .string ⟨#[]⟩, vI 0, vI 0, vI 0, vI 0, vI 0, .slice none 0 0, .slice none 0 0, .slice none 0 0]
  let M : Int → Int → Int → Int → List Value := fun a e z w => [vI 4, vI 0, vI 0, vI 0, .string ⟨#[]⟩, vI a, vI e, vI s.mark, vI z, vI w, .slice none 0 0, .slice none 0 0, .slice none 0 0]
  have b11 : Bx (H9.upd k11 (.cells z.toArray 52 (0, 0))) k11 52 z := Bx.new _ _ _ _
  have s11 : Sub H9 (H9.upd k11 (.cells z.toArray 52 (0, 0))) := Sub.upd _ hk11
  have w12 := b11.writes (M 0 0 0 0) rfl
  have b12 : Bx ((H9.upd k11 (.cells z.toArray 52 (0, 0))).upd k11 (.cells (M 0 0 0 0).toArray 52 (0, 0))) k11 52 (M 0 0 0 0) := Bx.new _ _ _ _
  have s12 := s11.wr (o := .cells (M 0 0 0 0).toArray 52 (0, 0)) hk11
  refine ⟨_, w12, ?_⟩
  generalize (H9.upd k11 (.cells z.toArray 52 (0, 0))).upd k11 (.cells (M 0 0 0 0).toArray 52 (0, 0)) = H12 at b12 s12 ⊢
  refine ⟨fun e => ?_, fun e => ?_⟩
  · have hm : mfix s.mark v = (4, 0, 0, 0, ⟨#[]⟩, v.at_, v.ep, s.mark, v.sz, 1, ⟨none, 0, 0, []⟩, ⟨none, 0, 0, []⟩, ⟨none, 0, 0, []⟩) := by unfold mfix; rw [e]; rfl
    rw [hm] at fin
    have w14 := b12.put (i := 9) (x := vI 1) (by show 9 < 13; decide)
    have b14 : Bx (H12.upd k11 (.cells (M 0 0 0 1).toArray 52 (0, 0))) k11 52 (M 0 0 0 1) := Bx.new _ _ _ _
    have s14 := s12.wr (o := .cells (M 0 0 0 1).toArray 52 (0, 0)) hk11
    refine ⟨H9, s12, obP k11, H12.upd k11 (.cells (M 0 0 0 1).toArray 52 (0, 0)), w14, s14, obP k11, ?_⟩
    generalize H12.upd k11 (.cells (M 0 0 0 1).toArray 52 (0, 0)) = H14 at b14 s14 ⊢
    have w15 := b14.put (i := 5) (x := vI v.at_) (by show 5 < 13; decide)
    have b15 : Bx (H14.upd k11 (.cells (M v.at_ 0 0 1).toArray 52 (0, 0))) k11 52 (M v.at_ 0 0 1) := Bx.new _ _ _ _
    have s15 := s14.wr (o := .cells (M v.at_ 0 0 1).toArray 52 (0, 0)) hk11
    refine ⟨H14.upd k11 (.cells (M v.at_ 0 0 1).toArray 52 (0, 0)), w15, s15, obP k11, ?_⟩
    generalize H14.upd k11 (.cells (M v.at_ 0 0 1).toArray 52 (0, 0)) = H15 at b15 s15 ⊢
    have w16 := b15.put (i := 6) (x := vI v.ep) (by show 6 < 13; decide)
    have b16 : Bx (H15.upd k11 (.cells (M v.at_ v.ep 0 1).toArray 52 (0, 0))) k11 52 (M v.at_ v.ep 0 1) := Bx.new _ _ _ _
    have s16 := s15.wr (o := .cells (M v.at_ v.ep 0 1).toArray 52 (0, 0)) hk11
    refine ⟨H15.upd k11 (.cells (M v.at_ v.ep 0 1).toArray 52 (0, 0)), w16, s16, obP k11, ?_⟩
    generalize H15.upd k11 (.cells (M v.at_ v.ep 0 1).toArray 52 (0, 0)) = H16 at b16 s16 ⊢
    have w17 := b16.put (i := 8) (x := vI v.sz) (by show 8 < 13; decide)
    have b17 : Bx (H16.upd k11 (.cells (M v.at_ v.ep v.sz 1).toArray 52 (0, 0))) k11 52 (M v.at_ v.ep v.sz 1) := Bx.new _ _ _ _
    have s17 := s16.wr (o := .cells (M v.at_ v.ep v.sz 1).toArray 52 (0, 0)) hk11
    exact ⟨H16.upd k11 (.cells (M v.at_ v.ep v.sz 1).toArray 52 (0, 0)), w17, _, _, _, _, _, _, _, _, _, _, _, _, _, _, _, _, _, _, _, b17.reads, fin s17⟩
  · have hm : mfix s.mark v = (4, 0, 0, 0, ⟨#[]⟩, 0, 0, s.mark, 0, 0, ⟨none, 0, 0, []⟩, ⟨none, 0, 0, []⟩, ⟨none, 0, 0, []⟩) := by unfold mfix; rw [e]; rfl
    rw [hm] at fin
    exact ⟨_, _, _, _, _, _, _, _, _, _, _, _, _, _, _, _, _, _, _, b12.reads, fin s12⟩
end Go.Agr
namespace Go.Agr
open Go.Vx Go.Vc Go.Proofs Go.Pln Go.Stl
open Go.Rnd (takesG insG froms againG RdS Both OkM AscG)
def init0 (p : Plan) (b : Int) (nm : ByteArray) (force live : Bool) (mark : Int) : St := ⟨p, b, nm, force, live, false, mark, [], [], [], 0, false, false, val0, [], [], []⟩
def x0 : AV := ⟨none, .nilFunc, none, 0, 0, none, 0, 0, none, 0, 0⟩
theorem begin_ok {H : PHeap} {p : Plan} {b : Int} {nm : ByteArray} (hp : p.ok = true) : Triple Tryz.prog 92 #[p.v, vI b, .string nm] H fun v H' => ∃ k, v = .pointer (at0 k) ∧ H k = none ∧ Sub H (rest H' [k]) ∧ Bx H' k tAg (cellsA (init0 p b nm false false 0) x0) := by
  refine agBegin.vc p.n p.t p.l p.w p.s p.r b nm H _ ⟨H, Sub.refl _, (right_ok p).use ⟨_, rfl, Sub.refl _, fun k hk => ?_⟩⟩
  rw [hp]
  refine ⟨k, rfl, hk, ?_, Bx.new _ _ _ _⟩
  rw [rest_upd]
  exact rest_le (Sub.refl _) (by simpa using hk)
/-- A plan's agreement begins, and asks. -/
abbrev Began (H : PHeap) (r : St × List Msg) (v : Value) (H' : PHeap) : Prop := ∃ k b n c F, v = .tuple #[.pointer (at0 k), .slice b n c] ∧ H k = none ∧ Sub H F ∧ RdL F mE 13 b n r.2 ∧ AgS F H' k r.1
theorem settle_ok {H : PHeap} {p : Plan} {b : Int} {nm : ByteArray} {force : Bool} (hp : p.ok = true) :
    Triple Tryz.prog 57 #[p.v, vI b, .string nm, .bool force] H (Began H ((init0 p b nm force false (IntKind.i64.wrap (2 * b))).ask mask)) := by
  refine agSettle.vc p.n p.t p.l p.w p.s p.r b nm force H _ ((begin_ok hp).mono ?_)
  rintro _ H1 ⟨k, rfl, hk, hs1, hb⟩
  refine ⟨at0 k, rfl, obP k, obP k, _, hb.fld (i := 10) rfl, fun e => (by cases e), fun _ => ⟨obP k, obP k, _, hb.put (i := 8) (x := .bool force) (by show 8 < 23; decide), obP k, obP k, ?_⟩⟩
  have b2 : Bx (H1.upd k (.cells (cellsA (init0 p b nm force false 0) x0).toArray tAg (0, 0))) k tAg (cellsA (init0 p b nm force false 0) x0) := Bx.new _ _ _ _
  have r2 : rest (H1.upd k (.cells (cellsA (init0 p b nm force false 0) x0).toArray tAg (0, 0))) [k] = rest H1 [k] := rest_upd _ _ _
  refine ⟨_, b2.put (i := 13) (x := jv false) (by show 13 < 23; decide), obP k, obP k, ?_⟩
  have b3 : Bx ((H1.upd k (.cells (cellsA (init0 p b nm force false 0) x0).toArray tAg (0, 0))).upd k (.cells (cellsA (init0 p b nm force false 0) { x0 with j := jv false }).toArray tAg (0, 0))) k tAg (cellsA (init0 p b nm force false 0) { x0 with j := jv false }) := Bx.new _ _ _ _
  have r3 : rest ((H1.upd k (.cells (cellsA (init0 p b nm force false 0) x0).toArray tAg (0, 0))).upd k (.cells (cellsA (init0 p b nm force false 0) { x0 with j := jv false }).toArray tAg (0, 0))) [k] = rest H1 [k] := by rw [rest_upd, r2]
  refine ⟨_, b3.put (i := 11) (x := vI (IntKind.i64.wrap (2 * b))) (by show 11 < 23; decide), ?_⟩
  have b4 : Bx (((H1.upd k (.cells (cellsA (init0 p b nm force false 0) x0).toArray tAg (0, 0))).upd k (.cells (cellsA (init0 p b nm force false 0) { x0 with j := jv false }).toArray tAg (0, 0))).upd k (.cells (cellsA (init0 p b nm force false (IntKind.i64.wrap (2 * b))) { x0 with j := jv false }).toArray tAg (0, 0))) k tAg (cellsA (init0 p b nm force false (IntKind.i64.wrap (2 * b))) { x0 with j := jv false }) := Bx.new _ _ _ _
  have r4 : rest (((H1.upd k (.cells (cellsA (init0 p b nm force false 0) x0).toArray tAg (0, 0))).upd k (.cells (cellsA (init0 p b nm force false 0) { x0 with j := jv false }).toArray tAg (0, 0))).upd k (.cells (cellsA (init0 p b nm force false (IntKind.i64.wrap (2 * b))) { x0 with j := jv false }).toArray tAg (0, 0))) [k] = rest H1 [k] := by rw [rest_upd, r3]
  refine (agAll_ok (s := init0 p b nm force false (IntKind.i64.wrap (2 * b))) (m := mask) hp b4).mono ?_
  rintro _ H' ⟨a, n, c, F1, kr, rfl, hrd, hF1, hR, hb'⟩
  rw [r4] at hF1
  exact ⟨a, n, c, rfl, k, a, n, c, F1, rfl, hk, hs1.trans hF1, hrd, kr, hR.sub.none (rest_none (by simp)), ⟨hp, rfl, fun m hm => (by cases hm), List.Pairwise.nil, fun m hm => (by cases hm), fun m hm => (by cases hm)⟩, F1, [], _, rfl, rfl, Sub.refl _, hR, Rnd.Both.nil, hb', ⟨RdL.nil _ _ _, RdL.nil _ _ _, RdL.nil _ _ _⟩⟩
theorem all_eq {wait : List Int} {got : List (Int × Msg)} {G : List Msg} (h : Both got G) : Rnd.allB wait got = allG wait G := by
  unfold Rnd.allB allG
  congr 1; funext i; exact h.some i
theorem got_len {got : List (Int × Msg)} {G : List Msg} (h : Both got G) : got.length = G.length := by
  have := h.keys.length_eq
  simpa using this
theorem asked_ok {F H : PHeap} {k kr : Nat} {s : St} (h : AgK F H k kr s) (hf : s.fixed = false) : Triple Tryz.prog 93 #[.pointer (at0 k)] H (Judged F k kr s s.judge0) := by
  obtain ⟨h1, h2, F1, got, x, h3, h4, h5, h6, h7, h8, h9⟩ := h
  have hlen := h2.len
  refine agAsked.vc (at0 k) H _ ⟨obP k, obP k, x.r, h8.fld rfl, ?_⟩
  rw [h3]
  refine (callR (Rnd.got_own h6 (by rw [got_len h7]; omega)) h8).mono ?_
  rintro _ H4 ⟨G4, ⟨b5, n6, c7, K, rfl, hK, hrd, hsub, hoffb⟩, hG4, hb4⟩
  have hKG : (K.map fun i => (mlook got i).getD Rnd.z0) = s.G := h7.got hK
  rw [hKG] at hrd
  have s4 : Sub (rest H [k]) (rest H4 [k]) := hsub.trans hG4
  have rp : Reads H4 (fldA (at0 k) 0) [vI s.p.n, vI s.p.t, vI s.p.l, vI s.p.w, vI s.p.s, vI s.p.r] := hb4.readsAt 0 fun j v hv => by
    match j, hv with
    | 0, hv => exact hv
    | 1, hv => exact hv
    | 2, hv => exact hv
    | 3, hv => exact hv
    | 4, hv => exact hv
    | 5, hv => exact hv
    | j + 6, hv => simp at hv
  have hl6 := hrd.len
  refine ⟨b5, n6, c7, rfl, obP k, obP k, _, _, _, _, _, _, rp, (callR (sSettle_ok (p := s.p) (hrd.mono hG4) (fun x hx => (h2.okG x hx).who.mono (h5.trans (h6.sub.trans s4))) (by omega)) hb4).mono ?_⟩
  rintro _ H15 ⟨G15, ⟨b, m, q, rfl, ho, hs15, ho15⟩, hG15, hb15⟩
  have s15 : Sub (rest H4 [k]) (rest H15 [k]) := hs15.trans hG15
  have s0 := s4.trans s15
  have hR15 := RdS_grow h6 s0
  have hF2 : Sub F1 (grow F1 (rest H [k]) (rest H15 [k])) := grow_le h6.sub
  have rGot : RdL (grow F1 (rest H [k]) (rest H15 [k])) mE 13 b5 n6 s.G := rd_grow (hrd.mono (hG4.trans s15)) hoffb
  have rHold : RdL (grow F1 (rest H [k]) (rest H15 [k])) iE 1 b m (verd s.p s.G).holders := rd_grow ((ho.rd (E := iE) (sz := 1) (by omega) Rnd.iLen).mono hG15) (ho15.sub s4)
  have hsl := h9.mono hF2
  have hj : s.judge0 = if (verd s.p s.G).enough then
      if (verd s.p s.G).clean && !s.force then (St.end_ { s with said := s.G, value := (verd s.p s.G).value, holders := (verd s.p s.G).holders } true, [])
      else St.fix { s with said := s.G } (verd s.p s.G).value
    else if allG s.wait s.G then (s.end_ false, []) else (s, []) := rfl
  generalize grow F1 (rest H [k]) (rest H15 [k]) = F2 at hR15 hF2 rGot rHold hsl
  generalize verd s.p s.G = w at hj rHold
  have hFF := h5.trans hF2
  have main : w.enough = true → Ob (at0 k ≠ none) ∧ Ob (at0 k ≠ none) ∧ Ob (fldA (at0 k) 14 ≠ none) ∧ ∃ H35, Writes H15 H35 (fldA (fldA (at0 k) 14) 8) [.slice b5 n6 c7] ∧ Bx H35 k tAg (cellsA { s with said := s.G } { x with s := b5, sn := n6, sc := c7 }) ∧ rest H35 [k] = rest H15 [k] := fun _ =>
    ⟨obP k, obP k, obF k 14, _, hb15.put (i := 22) (x := .slice b5 n6 c7) (by show 22 < 23; decide), Bx.new _ _ _ _, rest_upd _ _ _⟩
  have sl22 : SlA F2 { s with said := s.G } { x with s := b5, sn := n6, sc := c7 } := ⟨hsl.h, hsl.a, rGot⟩
  refine ⟨w.enough, w.clean, w.value.pr, w.value.at_, w.value.ep, w.value.sz, w.mark, b, m, q, rfl, fun e1 => ?_, fun e1 => ?_⟩
  · have e1' : w.enough = false := by simpa using e1
    rw [e1'] at hj
    simp only [Bool.false_eq_true, if_false] at hj
    refine ⟨obP k, obP k, x.r, hb15.fld rfl, ?_⟩
    rw [h3]
    refine (callR (Rnd.all_ok hR15) hb15).mono ?_
    rintro _ H28 ⟨G28, ⟨rfl, hs28⟩, hG28, hb28⟩
    have hA : AgK F H28 k kr s := ⟨h1, h2, F2, got, x, h3, h4, hFF, hR15.mono (hs28.trans hG28), h7, hb28, hsl⟩
    rw [all_eq h7]
    refine ⟨_, rfl, fun e2 => ?_, fun e2 => ⟨fun _ => ?_, fun e3 => ?_⟩⟩
    · refine (end_ok hA).mono ?_
      rintro _ H' ⟨rfl, hA'⟩
      rw [hj, if_pos e2]
      exact ⟨_, _, _, rfl, none, 0, 0, kr, rfl, RdL.nil _ _ _, hA', Moved.stay hA' rfl, fun _ _ => rfl⟩
    · rw [hj, if_neg (by rw [e2]; decide)]
      exact ⟨none, 0, 0, kr, rfl, RdL.nil _ _ _, hA, Moved.stay hA rfl, fun _ _ => rfl⟩
    · rw [e1'] at e3; cases e3
  · have e1' : w.enough = true := by simpa using e1
    refine ⟨fun e2 => (by rw [e1'] at e2; cases e2), fun _ => ?_⟩
    rw [e1', if_pos rfl] at hj
    obtain ⟨o1, o2, o3, H35, w35, hb35, r35⟩ := main e1'
    have fixes : (w.clean && !s.force) = false → Triple Tryz.prog 136 #[.pointer (at0 k), w.value.v] H35 fun v H' => ∃ a k1 k2, v = Value.slice a k1 k2 ∧ Judged F k kr s s.judge0 (.slice a k1 k2) H' := fun hc => by
      rw [hj, hc]
      refine (fixM_ok (F := F) (F2 := F2) (s := { s with said := s.G }) (v := w.value) h1 h2.pok h2.okG hFF (by rw [r35]; exact hR15.sub) hb35 sl22).mono ?_
      rintro _ H' ⟨a, n, c, kr', F3, rfl, hF3, hrd', hA3, hA, hnk, hsub'⟩
      refine ⟨a, n, c, rfl, a, n, c, kr', rfl, hrd'.mono hA3.sub, hA, ⟨?_, ?_⟩, fun ho hov => (by simp only [Bool.false_eq_true, if_false] at hov; exact absurd (ho.symm.trans hov) (by decide))⟩
      · obtain ⟨l, hl⟩ := RdS_bx hR15
        rw [r35] at hsub'
        exact ⟨l, (hl.sub hsub').sub (rest_sub _ _)⟩
      · obtain ⟨l, hl⟩ := RdS_bx hR15
        have hne : kr' ≠ kr := fun e => by
          rw [e, r35] at hnk
          unfold Bx at hl
          rw [hnk] at hl; cases hl
        rw [decide_eq_false hne, hf]; rfl
    refine ⟨o1, o2, o3, H35, w35, fun e2 => ⟨obP k, obP k, s.force, hb35.fld (i := 8) rfl, fun e3 => ?_, fun e3 => ?_⟩, fun e2 => ?_⟩
    · rw [e2, e3] at hj
      simp only [Bool.and_self, if_true] at hj
      have w38 := (hb35.writes (cellsA { s with said := s.G, value := w.value } { x with s := b5, sn := n6, sc := c7 }) rfl).part (A := (cellsA s x).take 16) (l2 := w.value.c) (B := [.slice x.h x.hn x.hc, .slice x.a x.an x.ac, .slice b5 n6 c7]) (old := s.value.c) hb35.reads rfl
      have b38 : Bx (H35.upd k (.cells (cellsA { s with said := s.G, value := w.value } { x with s := b5, sn := n6, sc := c7 }).toArray tAg (0, 0))) k tAg (cellsA { s with said := s.G, value := w.value } { x with s := b5, sn := n6, sc := c7 }) := Bx.new _ _ _ _
      have r38 : rest (H35.upd k (.cells (cellsA { s with said := s.G, value := w.value } { x with s := b5, sn := n6, sc := c7 }).toArray tAg (0, 0))) [k] = rest H15 [k] := by rw [rest_upd, r35]
      refine ⟨rest H15 [k], by rw [← r35]; exact rest_sub _ _, obP k, obP k, obF k 14, H35.upd k (.cells (cellsA { s with said := s.G, value := w.value } { x with s := b5, sn := n6, sc := c7 }).toArray tAg (0, 0)), w38, by rw [← r38]; exact rest_sub _ _, obP k, obP k, obF k 14, ?_⟩
      generalize H35.upd k (.cells (cellsA { s with said := s.G, value := w.value } { x with s := b5, sn := n6, sc := c7 }).toArray tAg (0, 0)) = H38 at b38 r38 ⊢
      have w39 := b38.put (i := 20) (x := .slice b m q) (by show 20 < 23; decide)
      refine ⟨_, w39, ?_⟩
      have hA : AgK F (H38.upd k (.cells (cellsA { s with said := s.G, value := w.value, holders := w.holders } { x with s := b5, sn := n6, sc := c7, h := b, hn := m, hc := q }).toArray tAg (0, 0))) k kr { s with said := s.G, value := w.value, holders := w.holders } :=
        ⟨h1, ⟨h2.pok, h2.wt, h2.gin, h2.asc, h2.okG, h2.okG⟩, F2, got, { x with s := b5, sn := n6, sc := c7, h := b, hn := m, hc := q }, h3, h4, hFF, by rw [rest_upd, r38]; exact hR15, h7, Bx.new _ _ _ _, ⟨rHold, hsl.a, rGot⟩⟩
      refine (end_ok hA).mono ?_
      rintro _ H' ⟨rfl, hA'⟩
      rw [hj]
      exact ⟨none, 0, 0, rfl, none, 0, 0, kr, rfl, RdL.nil _ _ _, hA', Moved.stay hA' rfl, fun _ _ => rfl⟩
    · exact fixes (by rw [e2, e3]; rfl)
    · exact fixes (by rw [show w.clean = false by simpa using e2]; rfl)
end Go.Agr
namespace Go.Agr
open Go.Vx Go.Vc Go.Proofs Go.Pln Go.Stl
open Go.Rnd (takesG insG froms againG RdS Both OkM AscG)
theorem ackL_snoc (L : List Msg) (x : Msg) : ackL (L ++ [x]) = ackL L ++ if kind_ x == 17 then [x] else [] := by
  unfold ackL
  rw [List.filter_append]
  cases h : kind_ x == 17 <;> simp [h]
theorem fixed_ok {F H : PHeap} {k kr : Nat} {s : St} (h : AgK F H k kr s) (hf : s.fixed = true) : Triple Tryz.prog 165 #[.pointer (at0 k)] H (Judged F k kr s s.judge1) := by
  obtain ⟨h1, h2, F1, got, x, h3, h4, h5, h6, h7, h8, h9⟩ := h
  have hlen := h2.len
  have w2 := h8.put (i := 21) (x := .slice none 0 0) (by show 21 < 23; decide)
  have b2 : Bx (H.upd k (.cells (cellsA s { x with a := none, an := 0, ac := 0 }).toArray tAg (0, 0))) k tAg (cellsA s { x with a := none, an := 0, ac := 0 }) := Bx.new _ _ _ _
  have r2 : rest (H.upd k (.cells (cellsA s { x with a := none, an := 0, ac := 0 }).toArray tAg (0, 0))) [k] = rest H [k] := rest_upd _ _ _
  refine agFixed.vc (at0 k) H _ ⟨obP k, obP k, obF k 14, H.upd k (.cells (cellsA s { x with a := none, an := 0, ac := 0 }).toArray tAg (0, 0)), w2, obP k, obP k, x.r, b2.fld rfl, ?_⟩
  generalize H.upd k (.cells (cellsA s { x with a := none, an := 0, ac := 0 }).toArray tAg (0, 0)) = H2 at b2 r2 ⊢
  rw [h3]
  have h6' := h6
  rw [← r2] at h6'
  refine (callR (Rnd.got_own h6' (by rw [got_len h7]; omega)) b2).mono ?_
  rintro _ H5 ⟨G5, ⟨b6, n7, c8, K, rfl, hK, hrd, hsub, hoffb⟩, hG5, hb5⟩
  have hKG : (K.map fun i => (mlook got i).getD Rnd.z0) = s.G := h7.got hK
  rw [hKG] at hrd
  have s5 : Sub (rest H [k]) (rest H5 [k]) := by rw [← r2]; exact hsub.trans hG5
  have rdG := hrd.mono hG5
  have hl7 := rdG.len
  refine ⟨b6, n7, c8, rfl, fun t H' => match t with | [.slice a q c, .int _ i] => 0 ≤ i ∧ i ≤ n7 ∧ Sub (rest H5 [k]) H' ∧ OwnL H' 52 mE 13 a q c (ackL (s.G.take i.toNat)) ∧ Off (rest H5 [k]) a ∧ (∀ z, a = some z → z.block ≠ k) ∧ ∃ ab an ac, Bx H' k tAg (cellsA s { x with a := ab, an := an, ac := ac }) ∧ OwnL H' 3 iE 1 ab an ac ((ackL (s.G.take i.toNat)).map from_) ∧ Off (rest H5 [k]) ab ∧ (∀ z, ab = some z → z.block ≠ k) ∧ (∀ z y, a = some z → ab = some y → z.block ≠ y.block) | _ => False, fun t _ => match t with | [_, .int _ i] => (n7 - i).toNat | _ => 0, ⟨by omega, by omega, rest_sub _ _, Owns.nil _ _ 13, Off.none _, (fun z e => by cases e), none, 0, 0, hb5, Owns.nil _ _ 1, Off.none _, (fun z e => by cases e), fun z y e => by cases e⟩, ?_⟩
  rintro a q c i H15 ⟨i0, i1, s15, how, hoff, hne, ab, an, ac, hb15, hob, hoffb2, hneb, hap⟩
  obtain ⟨i, rfl⟩ : ∃ j : Nat, i = j := ⟨i.toNat, by omega⟩
  rw [Int.toNat_natCast] at how hob
  have hql := (how.rd (E := mE) (sz := 13) (by omega) Rnd.mLen).len
  have hal := (hob.rd (E := iE) (sz := 1) (by omega) Rnd.iLen).len
  rw [List.length_map] at hal
  have hfl : (ackL (s.G.take i)).length ≤ 256 := by
    have : (ackL (s.G.take i)).length ≤ (s.G.take i).length := List.length_filter_le ..
    rw [List.length_take] at this
    omega
  refine ⟨fun hi => ?_, fun hi => ?_⟩
  · have hi' : i < n7 := by simpa using hi
    have rdG15 := rdG.mono s15
    obtain ⟨y, hy, hyr⟩ := rdG15.ex (i := (i : Int)) (by omega) (by omega)
    rw [Int.toNat_natCast] at hy
    have hsn := ackL_snoc (s.G.take i) y
    rw [show s.G.take i ++ [y] = s.G.take (i + 1) by rw [List.take_add_one, hy]; rfl] at hsn
    have hky : ∀ y1, kind_ y = y1 → (kind_ y == 17) = (y1 == 17) := by rintro _ rfl; rfl
    have hfy : ∀ y2, from_ y = y2 → [y].map from_ = [y2] := by rintro _ rfl; rfl
    have hmo := Rnd.mOne y
    obtain ⟨y1, y2, y3, y4, y5, y6, y7, y8, y9, y10, ⟨ya, yb, yc, yl⟩, ⟨za, zb, zc, zl⟩, ⟨wa, wb, wc, wl⟩⟩ := y
    rw [hky y1 rfl] at hsn
    have hfy' := hfy y2 rfl
    rw [Rnd.wrapS (i := (i : Int)) (by omega) (by omega)]
    refine ⟨rdG15.ob (by omega) (by omega), y1, y2, y3, y4, y5, y6, y7, y8, y9, y10, ya, yb, yc, za, zb, zc, wa, wb, wc, hyr, fun e1 k35 hk35 => ?_, fun e1 => ?_⟩
    · rw [e1, if_pos rfl] at hsn
      refine append_one Rnd.tM (E := mE) hk35 Rnd.mLen how rfl hmo (by simp [maxLen]; omega) (by omega) ?_
      intro a' c' H37 how' hf' hfr' hnn
      have hb37 := hf'.bx hb15 hne
      have hob37 : OwnL H37 3 iE 1 ab an ac ((ackL (s.G.take i)).map from_) := hob.mono fun z o hz ho => hf' _ _ ho fun z' hz' e => hap z' z hz' hz e.symm
      have hne' := hfr'.ne hb15 hne
      have hap' : ∀ z y, a' = some z → ab = some y → z.block ≠ y.block := fun z y hz hy => by
        subst hy
        obtain ⟨o, ho⟩ := hob.blk
        exact hfr'.ne ho (fun z' hz' => hap z' y hz' rfl) z hz
      have s37 := hf'.sub s15 hoff
      have hoff' := hfr'.off s15 hoff
      refine ⟨a', q + 1, c', rfl, H37, Sub.refl _, obP k, obP k, obF k 14, ab, an, ac, hb37.fld (i := 21) rfl, fun k45 hk45 => ⟨Sub.upd _ hk45, ?_⟩⟩
      refine append_one Rnd.tI (E := iE) (x := y2) hk45 Rnd.iLen hob37 rfl (Rnd.iOne _) (by simp [maxLen]; omega) (by omega) ?_
      intro ab' ac' H47 hob' hf2 hfr2 _
      have hb47 := hf2.bx hb37 hneb
      have how47 : OwnL H47 52 mE 13 a' (q + 1) c' _ := how'.mono fun z o hz ho => hf2 _ _ ho fun z' hz' e => hap' z z' hz hz' e
      have hneb' := hfr2.ne hb37 hneb
      have hap2 : ∀ z y, a' = some z → ab' = some y → z.block ≠ y.block := fun z y hz hy => by
        subst hz
        obtain ⟨o, ho⟩ := how'.blk
        exact fun e => hfr2.ne ho (fun z' hz' e' => hap' z z' rfl hz' e'.symm) y hy e.symm
      have s47 := hf2.sub s37 hoffb2
      have hoffb' := hfr2.off s37 hoffb2
      have w51 := hb47.put (i := 21) (x := .slice ab' (an + 1) ac') (by show 21 < 23; decide)
      refine ⟨ab', an + 1, ac', rfl, obP k, obP k, obF k 14, _, w51, ⟨by omega, by omega, ?_⟩, ⟨by simp only; omega⟩⟩
      rw [show ((i : Int) + 1).toNat = i + 1 by omega, hsn, List.map_append, hfy']
      refine ⟨s47.wr (rest_none (by simp)), how47.mono fun z o hz ho => by rw [Vx.upd_ne _ _ (hne' z hz)]; exact ho, hoff', hne', ab', an + 1, ac', Bx.new _ _ _ _, hob'.mono fun z o hz ho => by rw [Vx.upd_ne _ _ (hneb' z hz)]; exact ho, hoffb', hneb', hap2⟩
    · rw [e1] at hsn
      simp only [Bool.false_eq_true, if_false, List.append_nil] at hsn
      refine ⟨⟨by omega, by omega, ?_⟩, ⟨by simp only; omega⟩⟩
      rw [show ((i : Int) + 1).toNat = i + 1 by omega, hsn]
      exact ⟨s15, how, hoff, hne, ab, an, ac, hb15, hob, hoffb2, hneb, hap⟩
  · have hi' : ¬ i < n7 := by simpa using hi
    rw [List.take_of_length_le (by omega)] at how hob hfl hql hal
    have ra := (how.rd (E := mE) (sz := 13) (by omega) Rnd.mLen).rest (ks := [k]) fun z hz => by simpa using hne z hz
    have s15r : Sub (rest H5 [k]) (rest H15 [k]) := rest_le s15 (by simpa using rest_none (by simp))
    have rv : Reads H15 (fldA (at0 k) 16) s.value.c := hb15.readsAt 16 fun j v hv => by
      match j, hv with
      | 0, hv => exact hv
      | 1, hv => exact hv
      | 2, hv => exact hv
      | 3, hv => exact hv
      | j + 4, hv => simp at hv
    refine ⟨obP k, obP k, obF k 14, _, _, _, _, rv, (callR (sHold_ok (v := s.value) ra (by omega)) hb15).mono ?_⟩
    rintro _ H57 ⟨G57, ⟨b, m, q2, rfl, ho, hs57, ho57⟩, hG57, hb57⟩
    have s57 : Sub (rest H15 [k]) (rest H57 [k]) := hs57.trans hG57
    have w61 := hb57.put (i := 20) (x := .slice b m q2) (by show 20 < 23; decide)
    have b61 : Bx (H57.upd k (.cells (cellsA s { x with a := ab, an := an, ac := ac, h := b, hn := m, hc := q2 }).toArray tAg (0, 0))) k tAg (cellsA s { x with a := ab, an := an, ac := ac, h := b, hn := m, hc := q2 }) := Bx.new _ _ _ _
    have s0 := s5.trans (s15r.trans s57)
    have hR := RdS_grow h6 s0
    have hF2 : Sub F1 (grow F1 (rest H [k]) (rest H57 [k])) := grow_le h6.sub
    have rdh := ho.rd (E := iE) (sz := 1) (by omega) Rnd.iLen
    have rH : RdL (grow F1 (rest H [k]) (rest H57 [k])) iE 1 b m (holdL s.value (ackL s.G)) := rd_grow (rdh.mono hG57) (ho57.sub (s5.trans s15r))
    have rA : RdL (grow F1 (rest H [k]) (rest H57 [k])) iE 1 ab an ((ackL s.G).map from_) := rd_grow ((((hob.rd (E := iE) (sz := 1) (by omega) Rnd.iLen).rest (ks := [k]) fun z hz => by simpa using hneb z hz)).mono s57) (hoffb2.sub s5)
    have hml := rdh.len
    have hA : AgK F (H57.upd k (.cells (cellsA s { x with a := ab, an := an, ac := ac, h := b, hn := m, hc := q2 }).toArray tAg (0, 0))) k kr s.counted :=
      ⟨h1, ⟨h2.pok, h2.wt, h2.gin, h2.asc, h2.okG, h2.okS⟩, _, got, { x with a := ab, an := an, ac := ac, h := b, hn := m, hc := q2 }, h3, h4, h5.trans hF2, by rw [rest_upd]; exact hR, h7, Bx.new _ _ _ _, ⟨rH, rA, h9.s.mono hF2⟩⟩
    refine ⟨b, m, q2, rfl, obP k, obP k, obF k 14, _, w61, obP k, obP k, ?_⟩
    have hR61 : RdS (grow F1 (rest H [k]) (rest H57 [k])) (rest (H57.upd k (.cells (cellsA s { x with a := ab, an := an, ac := ac, h := b, hn := m, hc := q2 }).toArray tAg (0, 0))) [k]) kr s.asks s.wait got s.tries := by rw [rest_upd]; exact hR
    have e61 : H57.upd k (.cells ((cellsA s { x with a := ab, an := an, ac := ac }).set 20 (.slice b m q2)).toArray tAg (0, 0)) = H57.upd k (.cells (cellsA s { x with a := ab, an := an, ac := ac, h := b, hn := m, hc := q2 }).toArray tAg (0, 0)) := rfl
    rw [e61]
    generalize H57.upd k (.cells (cellsA s { x with a := ab, an := an, ac := ac, h := b, hn := m, hc := q2 }).toArray tAg (0, 0)) = H61 at b61 hA hR61 ⊢
    have hj : s.judge1 = if decide ((s.num : Int) ≥ s.p.w) || allG s.wait s.G then (s.counted.end_ (decide ((s.num : Int) ≥ s.p.w)), []) else (s.counted, []) := rfl
    have fin : ∀ n : Nat, n = s.num → (decide ((n : Int) ≥ s.p.w) = true → Triple Tryz.prog 69 #[.pointer (at0 k), .bool (decide ((n : Int) ≥ s.p.w))] H61 fun v H' => ∃ a1 k1 k2, v = Value.slice a1 k1 k2 ∧ Judged F k kr s s.judge1 (.slice a1 k1 k2) H') ∧
        (decide ((n : Int) ≥ s.p.w) = false → Triple Tryz.prog 45 #[.pointer (at0 kr)] H61 fun v H69 => ∃ b70, v = Value.bool b70 ∧ (b70 = true → Bx H69 k tAg (cellsA s { x with a := ab, an := an, ac := ac, h := b, hn := m, hc := q2 }) ∧ Triple Tryz.prog 69 #[.pointer (at0 k), .bool (decide ((n : Int) ≥ s.p.w))] H69 fun v H' => ∃ a1 k1 k2, v = Value.slice a1 k1 k2 ∧ Judged F k kr s s.judge1 (.slice a1 k1 k2) H') ∧ (b70 = false → Judged F k kr s s.judge1 (.slice none 0 0) H69)) := fun n hn => by
      rw [← hn] at hj
      refine ⟨fun e => (end_ok hA).mono ?_, fun e => (callR (Rnd.all_ok hR61) b61).mono ?_⟩
      · rintro _ H' ⟨rfl, hA'⟩
        rw [hj, e]
        rw [e] at hA'
        exact ⟨_, _, _, rfl, none, 0, 0, kr, rfl, RdL.nil _ _ _, hA', Moved.stay hA' rfl, fun _ _ => rfl⟩
      · rintro _ H69 ⟨G69, ⟨rfl, hs69⟩, hG69, hb69⟩
        have hA69 : AgK F H69 k kr s.counted :=
          ⟨h1, ⟨h2.pok, h2.wt, h2.gin, h2.asc, h2.okG, h2.okS⟩, _, got, { x with a := ab, an := an, ac := ac, h := b, hn := m, hc := q2 }, h3, h4, h5.trans hF2, hR61.mono (hs69.trans hG69), h7, hb69, ⟨rH, rA, h9.s.mono hF2⟩⟩
        rw [all_eq h7]
        refine ⟨_, rfl, fun e2 => ⟨hb69, (end_ok hA69).mono ?_⟩, fun e2 => ?_⟩
        · rintro _ H' ⟨rfl, hA'⟩
          rw [hj, e, e2]
          rw [e] at hA'
          exact ⟨_, _, _, rfl, none, 0, 0, kr, rfl, RdL.nil _ _ _, hA', Moved.stay hA' rfl, fun _ _ => rfl⟩
        · rw [hj, e, e2]
          exact ⟨none, 0, 0, kr, rfl, RdL.nil _ _ _, hA69, Moved.stay hA69 rfl, fun _ _ => rfl⟩
    refine ⟨s.live, b61.fld (i := 9) rfl, fun e => ?_, fun e => ?_⟩
    · have hn : m = s.num := by unfold St.num; rw [e, if_pos rfl, hml]
      obtain ⟨f1, f2⟩ := fin m hn
      refine ⟨obP k, obP k, obF k 14, b, m, q2, b61.fld (i := 20) rfl, obP k, obP k, obF k 0, s.p.w, b61.fld (i := 3) rfl, fun e2 => ⟨obP k, obP k, x.r, b61.fld (i := 12) rfl, ?_⟩, fun e2 => ⟨obP k, obP k, obF k 0, s.p.w, b61.fld (i := 3) rfl, f1 (by simpa using e2)⟩⟩
      rw [h3]
      refine (f2 e2).mono ?_
      rintro _ H69 ⟨b70, rfl, g1, g2⟩
      exact ⟨b70, rfl, fun e3 => ⟨obP k, obP k, obF k 0, s.p.w, (g1 e3).1.fld (i := 3) rfl, (g1 e3).2⟩, fun e3 => g2 e3⟩
    · have hn : q = s.num := by unfold St.num; rw [e, if_neg (by decide), hql]
      obtain ⟨f1, f2⟩ := fin q hn
      refine ⟨obP k, obP k, obF k 0, s.p.w, b61.fld (i := 3) rfl, fun e2 => ⟨obP k, obP k, x.r, b61.fld (i := 12) rfl, ?_⟩, fun e2 => ⟨obP k, obP k, obF k 0, s.p.w, b61.fld (i := 3) rfl, f1 (by simpa using e2)⟩⟩
      rw [h3]
      refine (f2 e2).mono ?_
      rintro _ H69 ⟨b70, rfl, g1, g2⟩
      exact ⟨b70, rfl, fun e3 => ⟨obP k, obP k, obF k 0, s.p.w, (g1 e3).1.fld (i := 3) rfl, (g1 e3).2⟩, fun e3 => g2 e3⟩
end Go.Agr
namespace Go.Agr
open Go.Vx Go.Vc Go.Proofs Go.Pln Go.Stl
open Go.Rnd (takesG insG froms againG RdS Both OkM AscG)
theorem judge_ok {F H : PHeap} {k kr : Nat} {s : St} (h : AgK F H k kr s) {Q : Value → PHeap → Prop} (hQ : ∀ v H', Judged F k kr s s.judge v H' → Q v H') : CallY Tryz.prog (jv s.fixed) #[.pointer (at0 k)] H Q := by
  cases hf : s.fixed with
  | true => exact CallY.fn (by kernel_rfl) ((fixed_ok h hf).mono fun v H' hj => hQ v H' (by unfold St.judge; rw [hf, if_pos rfl]; exact hj))
  | false => exact CallY.fn (by kernel_rfl) ((asked_ok h hf).mono fun v H' hj => hQ v H' (by unfold St.judge; rw [hf, if_neg (by decide)]; exact hj))
theorem takes_ok {H : PHeap} {k : Nat} {s : St} {x : AV} {m : Msg} (hb : Bx H k tAg (cellsA s x)) : Triple Tryz.prog 80 #[.pointer (at0 k), Rnd.vM m] H fun v H' => v = .bool (s.takes m) ∧ H' = H := by
  obtain ⟨y1, y2, y3, y4, y5, y6, y7, y8, y9, y10, ⟨ya, yb, yc, yl⟩, ⟨za, zb, zc, zl⟩, ⟨wa, wb, wc, wl⟩⟩ := m
  have ht : s.takes (y1, y2, y3, y4, y5, y6, y7, y8, y9, y10, ⟨ya, yb, yc, yl⟩, ⟨za, zb, zc, zl⟩, ⟨wa, wb, wc, wl⟩) = (y4 == s.ballot && eqS y5 s.name && (if s.fixed then (if y1 == 16 then y10 == 4 && y8 == s.mark else y1 == 17 && y8 == s.mark && (if s.value.pr then (y10 == 2 || y10 == 3) && y6 == s.value.at_ && y7 == s.value.ep else y10 == 4)) else y1 == 14)) := rfl
  rw [ht]
  have rv : Reads H (fldA (at0 k) 16) s.value.c := hb.readsAt 16 fun j v hv => by
    match j, hv with
    | 0, hv => exact hv
    | 1, hv => exact hv
    | 2, hv => exact hv
    | 3, hv => exact hv
    | j + 4, hv => simp at hv
  refine agTakes.vc (at0 k) y1 y2 y3 y4 y5 y6 y7 y8 y9 y10 ya yb yc za zb zc wa wb wc H _ ⟨H, Sub.refl _, obP k, obP k, s.ballot, hb.fld (i := 6) rfl, fun e1 => ⟨obP k, obP k, s.name, hb.fld (i := 7) rfl, fun e2 => ?_, fun e2 => ⟨obP k, obP k, obF k 14, _, _, _, _, rv, obP k, obP k, obF k 14, s.fixed, hb.fld (i := 15) rfl, fun e3 => ?_, fun e3 => ⟨fun e4 => ⟨H, Sub.refl _, fun e5 => ⟨obP k, obP k, s.mark, hb.fld (i := 11) rfl, ?_⟩, fun e5 => ?_⟩, fun e4 => ⟨H, Sub.refl _, fun e5 => ⟨obP k, obP k, s.mark, hb.fld (i := 11) rfl, fun e6 => ?_, fun e6 => ⟨fun e7 => ?_, fun e7 => ?_⟩⟩, fun e5 => ?_⟩⟩⟩⟩, fun e1 => ?_⟩
  · have e2' : eqS y5 s.name = false := by simpa using e2
    exact ⟨by rw [e2']; simp, rfl⟩
  · have e1' : (y4 == s.ballot) = true := by simpa [bne] using e1
    have e2' : eqS y5 s.name = true := by simpa using e2
    have e3' : s.fixed = false := by simpa using e3
    exact ⟨by rw [e1', e2', e3']; simp, rfl⟩
  · have e1' : (y4 == s.ballot) = true := by simpa [bne] using e1
    have e2' : eqS y5 s.name = true := by simpa using e2
    have e3' : s.fixed = true := by simpa using e3
    exact ⟨by rw [e1', e2', e3', e4, e5]; simp, rfl⟩
  · have e3' : s.fixed = true := by simpa using e3
    have e5' : (y10 == 4) = false := by simpa using e5
    exact ⟨by rw [e3', e4, e5']; simp, rfl⟩
  · have e3' : s.fixed = true := by simpa using e3
    have e6' : (y8 == s.mark) = false := by simpa [bne] using e6
    exact ⟨by rw [e3', e4, e6']; simp, rfl⟩
  · have e1' : (y4 == s.ballot) = true := by simpa [bne] using e1
    have e2' : eqS y5 s.name = true := by simpa using e2
    have e3' : s.fixed = true := by simpa using e3
    have e5' : (y1 == 17) = true := by simpa [bne] using e5
    have e6' : (y8 == s.mark) = true := by simpa [bne] using e6
    have e7' : s.value.pr = false := by simpa using e7
    exact ⟨by rw [e1', e2', e3', e4, e5', e6', e7']; simp, rfl⟩
  · have e1' : (y4 == s.ballot) = true := by simpa [bne] using e1
    have e2' : eqS y5 s.name = true := by simpa using e2
    have e3' : s.fixed = true := by simpa using e3
    have e5' : (y1 == 17) = true := by simpa [bne] using e5
    have e6' : (y8 == s.mark) = true := by simpa [bne] using e6
    have e7' : s.value.pr = true := by simpa using e7
    refine ⟨?_, rfl⟩
    rw [e1', e2', e3', e4, e5', e6', e7']
    cases y10 == 2 <;> cases y10 == 3 <;> cases y6 == s.value.at_ <;> cases y7 == s.value.ep <;> rfl
  · have e3' : s.fixed = true := by simpa using e3
    have e5' : (y1 == 17) = false := by simpa [bne] using e5
    exact ⟨by rw [e3', e4, e5']; simp, rfl⟩
  · have e1' : (y4 == s.ballot) = false := by simpa [bne] using e1
    exact ⟨by rw [e1']; simp, rfl⟩
theorem takes_eq {wait : List Int} {got : List (Int × Msg)} {G : List Msg} (h : Both got G) (m : Msg) : Rnd.takesB wait got m = takesG wait G m := by
  unfold Rnd.takesB takesG
  rw [← h.some (Rnd.from_ m)]
  cases mlook got (Rnd.from_ m) <;> rfl
theorem takes_new {wait : List Int} {G : List Msg} {m : Msg} (h : takesG wait G m = true) : Rnd.from_ m ∈ wait ∧ Rnd.from_ m ∉ froms G := by
  unfold takesG at h
  simp only [Bool.and_eq_true, Bool.not_eq_true', decide_eq_false_iff_not, decide_eq_true_eq] at h
  exact h
/-- One block alone. -/
def only (H : PHeap) (k : Nat) : PHeap := fun q => if q = k then H k else none
theorem only_sub {H H' : PHeap} {k : Nat} {t : TypeId} {l : List Value} (hb : Bx H k t l) (hb' : Bx H' k t l) : Sub (only H k) H' := ⟨fun q o hq => by
  unfold only at hq
  split at hq
  · rename_i e
    rw [e, show H' k = _ from hb', ← show H k = _ from hb]; exact hq
  · cases hq⟩
theorem only_bx {H : PHeap} {k : Nat} {t : TypeId} {l : List Value} (hb : Bx H k t l) : Bx (only H k) k t l := by
  unfold Bx only
  rw [if_pos rfl]; exact hb
/-- What a step leaves and says. -/
abbrev Did (F : PHeap) (k : Nat) (r : St × List Msg) (v : Value) (H' : PHeap) : Prop := ∃ b n c, v = .slice b n c ∧ RdL H' mE 13 b n r.2 ∧ AgS F H' k r.1
/-- What it says at its end is nothing. -/
abbrev Did2 (F : PHeap) (k : Nat) (r : St × List Msg) (v : Value) (H' : PHeap) : Prop := Did F k r v H' ∧ (r.1.over = true → v = .slice none 0 0)
theorem take_ok2 {F H : PHeap} {k : Nat} {s : St} {m : Msg} (hA : AgS F H k s) (hm : OkM F m) : Triple Tryz.prog 41 #[.pointer (at0 k), Rnd.vM m] H (Did2 F k (s.take m)) := by
  obtain ⟨kr, hA⟩ := hA
  have hA' := hA
  obtain ⟨h1, h2, F1, got, x, h3, h4, h5, h6, h7, h8, h9⟩ := hA'
  have hnil : ∀ {H' : PHeap} {t : St}, AgS F H' k t → Did2 F k (t, []) (.slice none 0 0) H' := fun h => ⟨⟨none, 0, 0, rfl, RdL.nil _ _ _, h⟩, fun _ => rfl⟩
  have hto := takes_ok (m := m) h8
  have htr := callR (Rnd.take_ok (m := m) h6) h8
  have hst : s.take m = if s.over then (s, []) else if s.takes m && takesG s.wait s.G m then (if allG s.wait (insG s.G m) then (s.got m).judge else (s.got m, [])) else (s, []) := rfl
  have hnew := fun h => takes_new (wait := s.wait) (G := s.G) (m := m) h
  have hinv : takesG s.wait s.G m = true → Inv F (s.got m) := fun h => ⟨h2.pok, h2.wt, fun y hy => by
      rcases Rnd.mem_ins.1 hy with hy | hy
      · exact h2.gin y hy
      · rw [hy]; show Rnd.from_ m ∈ ids s.p; rw [← h2.wt]; exact (hnew h).1, Rnd.ins_asc h2.asc (hnew h).2, fun y hy => by
      rcases Rnd.mem_ins.1 hy with hy | hy
      · exact h2.okG y hy
      · rw [hy]; exact hm, h2.okS⟩
  have hboth : takesG s.wait s.G m = true → Both (got ++ [(Rnd.from_ m, m)]) (insG s.G m) := fun h => h7.put (hnew h).2
  have hte := takes_eq (wait := s.wait) h7 m
  rw [hte] at htr
  generalize hsg : s.got m = sg at hst hinv
  have hsgG : sg.G = insG s.G m := by rw [← hsg]; rfl
  have hsgf : sg.fixed = s.fixed ∧ sg.asks = s.asks ∧ sg.wait = s.wait ∧ sg.tries = s.tries ∧ sg.holders = s.holders ∧ sg.acks = s.acks ∧ sg.said = s.said := by rw [← hsg]; exact ⟨rfl, rfl, rfl, rfl, rfl, rfl, rfl⟩
  have hcells : cellsA sg x = cellsA s x := by rw [← hsg]; rfl
  have hsgo : sg.over = s.over := by rw [← hsg]; rfl
  generalize s.takes m = tk at hto hst
  generalize takesG s.wait s.G m = tg at htr hst hinv hboth
  generalize insG s.G m = G' at hst hsgG hboth
  generalize s.take m = out at hst
  generalize Rnd.from_ m = fm at htr hboth
  have htr' : Triple Tryz.prog 44 #[.pointer (at0 kr), Rnd.vM m] H fun v H' => ∃ got', v = .bool tg ∧ got' = (if tg then got ++ [(fm, m)] else got) ∧ RdS F1 (rest H' [k]) kr s.asks s.wait got' s.tries ∧ Bx H' k tAg (cellsA s x) := htr.mono fun v H' ⟨G, ⟨e1, e2⟩, e3, e4⟩ => ⟨_, e1, rfl, e2.mono e3, e4⟩
  clear htr
  obtain ⟨y1, y2, y3, y4, y5, y6, y7, y8, y9, y10, ⟨ya, yb, yc, yl⟩, ⟨za, zb, zc, zl⟩, ⟨wa, wb, wc, wl⟩⟩ := m
  refine agTake.vc (at0 k) y1 y2 y3 y4 y5 y6 y7 y8 y9 y10 ya yb yc za zb zc wa wb wc H _ ⟨only H k, only_sub h8 h8, fun _ => ⟨obP k, obP k, s.over, (only_bx h8).fld (i := 10) rfl, fun e1 => hto.mono ?_, fun e1 => ?_⟩, fun e => by simp [at0] at e⟩
  · rintro _ H24 ⟨rfl, hH⟩
    rw [hH]
    rw [if_neg (by rw [e1]; decide)] at hst
    refine ⟨_, rfl, only_sub h8 h8, fun e2 => ⟨obP k, obP k, x.r, (only_bx h8).fld (i := 12) rfl, ?_⟩, fun e2 => ?_⟩
    · have e2' : tk = true := by simpa using e2
      rw [e2', Bool.true_and] at hst
      rw [h3]
      refine htr'.mono ?_
      rintro _ H28 ⟨got', rfl, hg', hR28, hb28⟩
      refine ⟨_, rfl, only_sub h8 hb28, fun e3 => ⟨obP k, obP k, x.r, (only_bx h8).fld (i := 12) rfl, ?_⟩, fun e3 => ?_⟩
      · have e3' : tg = true := by simpa using e3
        rw [e3', if_pos rfl] at hst
        rw [e3', if_pos rfl] at hg'
        have hB := hboth e3'
        rw [← hg'] at hB
        rw [h3]
        refine (callR (Rnd.all_ok hR28) hb28).mono ?_
        rintro _ H32 ⟨G32, ⟨rfl, hs32⟩, hG32, hb32⟩
        rw [all_eq hB]
        have hA32 : AgK F H32 k kr sg := ⟨h1, hinv e3', F1, got', x, h3, by rw [hsgf.1]; exact h4, h5, by rw [hsgf.2.1, hsgf.2.2.1, hsgf.2.2.2.1]; exact hR28.mono (hs32.trans hG32), by rw [hsgG]; exact hB, by rw [hcells]; exact hb32, ⟨by rw [hsgf.2.2.2.2.1]; exact h9.h, by rw [hsgf.2.2.2.2.2.1]; exact h9.a, by rw [hsgf.2.2.2.2.2.2]; exact h9.s⟩⟩
        refine ⟨_, rfl, fun e4 => ?_, fun e4 => ⟨obP k, obP k, x.j, hb32.fld (i := 13) rfl, ?_⟩⟩
        · have e4' : allG s.wait G' = false := by simpa using e4
          rw [e4', if_neg (by decide)] at hst
          rw [hst]
          exact hnil ⟨kr, hA32⟩
        · have e4' : allG s.wait G' = true := by simpa using e4
          rw [e4', if_pos rfl] at hst
          rw [h4, ← hsgf.1]
          refine judge_ok hA32 ?_
          rintro _ H' ⟨b, n, c, kr', rfl, hrd, hA', _, hno⟩
          rw [hst]
          exact ⟨b, n, c, rfl, ⟨b, n, c, rfl, hrd, kr', hA'⟩, fun h => hno (by rw [hsgo]; simpa using e1) h⟩
      · have e3' : tg = false := by simpa using e3
        rw [e3', if_neg (by decide)] at hst
        rw [e3', if_neg (by decide)] at hg'
        rw [hst]
        rw [hg'] at hR28
        exact hnil ⟨kr, h1, h2, F1, got, x, h3, h4, h5, hR28, h7, hb28, h9⟩
    · have e2' : tk = false := by simpa using e2
      rw [e2', Bool.false_and, if_neg (by decide)] at hst
      rw [hst]
      exact hnil ⟨kr, hA⟩
  · have e1' : s.over = true := by simpa using e1
    rw [e1', if_pos rfl] at hst
    rw [hst]
    exact hnil ⟨kr, hA⟩
theorem again_eq {asks : List Msg} {got : List (Int × Msg)} {G : List Msg} (h : Both got G) : Rnd.again asks got = againG asks G := List.filter_congr fun x _ => by rw [h.some]
theorem info_ok {P : Program} {t : TypeId} (h : (match P.info? t with | some j => j.size != 0 | none => false) = true) : ∃ j, P.info? t = some j ∧ j.size ≠ 0 := by
  cases e : P.info? t with
  | none => rw [e] at h; cases h
  | some j => rw [e] at h; exact ⟨j, rfl, by simpa using h⟩
theorem tick_ok2 {F H : PHeap} {k : Nat} {s : St} (hA : AgS F H k s) : Triple Tryz.prog 33 #[.pointer (at0 k)] H (Did2 F k s.tick) := by
  obtain ⟨kr, hA⟩ := hA
  have hA0 := hA
  obtain ⟨h1, h2, F1, got, x, h3, h4, h5, h6, h7, h8, h9⟩ := hA0
  have hst : s.tick = if s.over then (s, []) else if s.judge.1.over || (s.judge.1.fixed != s.fixed) then s.judge else s.judge.1.late := rfl
  refine agTick.vc (at0 k) H _ ⟨fun _ => ⟨obP k, obP k, s.over, h8.fld (i := 10) rfl, fun e1 => ?_, fun e1 => ⟨obP k, obP k, x.r, h8.fld (i := 12) rfl, obP k, obP k, x.j, h8.fld (i := 13) rfl, ?_⟩⟩, fun e => by simp [at0] at e⟩
  · rw [hst, if_pos e1]
    exact ⟨⟨none, 0, 0, rfl, RdL.nil _ _ _, kr, hA⟩, fun _ => rfl⟩
  · rw [if_neg (by rw [e1]; decide)] at hst
    rw [h4]
    refine judge_ok hA ?_
    rintro _ H6 ⟨b, n, c, kr', rfl, hrd, hA6, ⟨⟨l0, hl0⟩, hmv⟩, hno⟩
    have hA6' := hA6
    obtain ⟨g1, g2, F2, got2, x2, g3, g4, g5, g6, g7, g8, g9⟩ := hA6'
    obtain ⟨l1, hl1⟩ := RdS_bx g6
    refine ⟨b, n, c, rfl, obP k, obP k, s.judge.1.over, g8.fld (i := 10) rfl, fun e2 => ⟨obP k, obP k, x2.r, g8.fld (i := 12) rfl, ?_⟩, fun e2 => ?_⟩
    · rw [g3, h3]
      obtain ⟨j, hj, hjs⟩ := info_ok (P := Tryz.prog) (t := tRd) (by kernel_rfl)
      refine ptr_neq (tp := 66) (te := tRd) (by kernel_rfl) hj hjs (hl1.sub (rest_sub _ _)) hl0 ⟨_, rfl, fun e3 => ?_, fun e3 => ⟨obP k, obP k, x2.r, g8.fld (i := 12) rfl, ?_⟩⟩
      · rw [hmv] at e3
        rw [e2, e3, Bool.or_true, if_pos rfl] at hst
        rw [hst]
        exact ⟨⟨b, n, c, rfl, hrd, kr', hA6⟩, hno e1⟩
      · rw [hmv] at e3
        rw [e2, e3, Bool.or_false, if_neg (by decide)] at hst
        have hlt : s.judge.1.late = if s.judge.1.tries = 0 then (s.judge.1.end_ false, []) else ({ s.judge.1 with tries := IntKind.i64.wrap (s.judge.1.tries - 1) }, againG s.judge.1.asks s.judge.1.G) := rfl
        rw [hlt] at hst
        generalize s.judge.1 = u at *
        rw [g3]
        refine (callR (Rnd.tick_ok g6) g8).mono ?_
        rintro _ H16 ⟨G16, hcase, hG16, hb16⟩
        rcases hcase with ⟨ht, rfl, hR, hs16⟩ | ⟨ht, hR, b2, n2, c2, rfl, hrd2⟩
        · rw [if_pos ht] at hst
          refine ⟨_, _, _, _, rfl, fun _ => ?_, fun e => by cases e⟩
          refine (end_ok (⟨g1, g2, F2, got2, x2, g3, g4, g5, hR.mono hG16, g7, hb16, g9⟩ : AgK F H16 k kr' u)).mono ?_
          rintro _ H' ⟨rfl, hA'⟩
          rw [hst]
          exact ⟨none, 0, 0, rfl, ⟨none, 0, 0, rfl, RdL.nil _ _ _, kr', hA'⟩, fun _ => rfl⟩
        · rw [if_neg ht] at hst
          refine ⟨b2, n2, c2, _, rfl, fun e => (by cases e), fun _ => ?_⟩
          rw [hst]
          refine ⟨⟨b2, n2, c2, rfl, ?_, kr', g1, ⟨g2.pok, g2.wt, g2.gin, g2.asc, g2.okG, g2.okS⟩, F2, got2, x2, g3, g4, g5, hR.mono hG16, g7, hb16, ⟨g9.h, g9.a, g9.s⟩⟩, fun h => absurd (e2.symm.trans h) (by decide)⟩
          rw [← again_eq g7]
          exact hrd2.mono (hG16.trans (rest_sub _ _))
    · have e2' : s.judge.1.over = true := by simpa using e2
      rw [e2', Bool.true_or, if_pos rfl] at hst
      rw [hst]
      exact ⟨⟨b, n, c, rfl, hrd, kr', hA6⟩, hno e1⟩
/-- A result's cells. -/
abbrev cellsR (s : St) (x : AV) : List Value := [.bool s.ok, .bool s.fixed, .bool s.value.pr, vI s.value.at_, vI s.value.ep, vI s.value.sz, .slice x.h x.hn x.hc, .slice x.a x.an x.ac, .slice x.s x.sn x.sc]
abbrev zeroR : List Value := [.bool false, .bool false, .bool false, vI 0, vI 0, vI 0, .slice none 0 0, .slice none 0 0, .slice none 0 0]
theorem done_ok {F H : PHeap} {k : Nat} {s : St} (hA : AgS F H k s) : Triple Tryz.prog 68 #[.pointer (at0 k)] H fun v H' => H' = H ∧
    ((s.over = false ∧ v = .tuple #[.agg zeroR.toArray, .bool false]) ∨ (s.over = true ∧ ∃ x : AV, v = .tuple #[.agg (cellsR s x).toArray, .bool true] ∧ SlA H s x)) := by
  obtain ⟨kr, h1, h2, F1, got, x, h3, h4, h5, h6, h7, h8, h9⟩ := hA
  refine agDone.vc (at0 k) H _ ⟨fun _ => ⟨obP k, obP k, s.over, h8.fld (i := 10) rfl, fun e => ?_, fun e => ?_⟩, fun e => by simp [at0] at e⟩
  · exact ⟨rfl, .inl ⟨by simpa using e, rfl⟩⟩
  · have rd : Reads H (fldA (at0 k) 14) (cellsR s x) := h8.readsAt 14 fun j v hv => by
      match j, hv with
      | 0, hv => exact hv
      | 1, hv => exact hv
      | 2, hv => exact hv
      | 3, hv => exact hv
      | 4, hv => exact hv
      | 5, hv => exact hv
      | 6, hv => exact hv
      | 7, hv => exact hv
      | 8, hv => exact hv
      | j + 9, hv => simp at hv
    exact ⟨obP k, obP k, _, _, _, _, _, _, _, _, _, _, _, _, _, _, _, rd, rfl, .inr ⟨by simpa using e, x, rfl, h9.mono (h6.sub.trans (rest_sub _ _))⟩⟩
end Go.Agr
namespace Go.Vc
open Go.Vx Go Go.Proofs.Tryz
def lawFar.cx : Cx := ⟨[], [(2, [7], [])], [], []⟩
def l8Some.cx : Cx := ⟨[], [], [], []⟩
theorem lawFar.vc (a1 : Option Addr) (k2 k3 : Nat) (H : PHeap) (Q : Value -> PHeap -> Prop)
 (h : ∃ (R4 : Rl) (M5 : Mu), R4 [iw 0] H /\ ∀ (n6 : Int) (H7 : PHeap), R4 [iw n6] H7 -> (decide (n6 < (k2 : Int)) = true -> Ob (a1 ≠ none /\ 0 ≤ n6 /\ n6 < (k2 : Int)) /\
 ∃ n8 n9 n10 n11 s12 n13 n14 n15 n16 n17 a18 k19 k20 a21 k22 k23 a24 k25 k26, Reads H7 (elemA a1 n6 13) [iw n8, iw n9, iw n10, iw n11, .string s12, iw n13, iw n14,
 iw n15, iw n16, iw n17, sw a18 k19 k20, sw a21 k22 k23, sw a24 k25 k26] /\ Triple prog 51 #[Value.agg #[iw n8, iw n9, iw n10, iw n11, .string s12, iw n13, iw n14, iw n15, iw n16, iw n17, sw a18 k19 k20, sw a21 k22 k23,
 sw a24 k25 k26]] H7 fun v27 H28 => ∃ b29, v27 = .bool b29 /\ (b29 = true -> Q (.bool true) H28) /\ (b29 = false ->
 R4 [iw (IntKind.i64.wrap (n6 + 1))] H28 /\ Less (M5 [iw (IntKind.i64.wrap (n6 + 1))] H28) (M5 [iw n6] H7))) /\ (decide (n6 < (k2 : Int)) = false -> Q (.bool (decide ((k2 : Int) > 200))) H7)) :
 Triple prog 17 ([sw a1 k2 k3]).toArray H Q := Triple.of_vc lawFar.cx (by kernel_rfl) h
theorem l8Some.vc (H : PHeap) (Q : Value -> PHeap -> Prop)
 (h : Q (.agg #[iw 4, iw 1, iw 2, iw 3, iw 16, iw 3]) H) : Triple prog 18 ([]).toArray H Q := Triple.of_vc l8Some.cx (by kernel_rfl) h
end Go.Vc
namespace Go.Agr
open Go.Vx Go.Vc Go.Proofs Go.Pln Go.Stl
open Go.Rnd (takesG insG froms againG RdS Both OkM AscG)
/-- What is known beside an agreement grows. -/
theorem AgK.ext {F F' H H' : PHeap} {k kr : Nat} {s : St} (h : AgK F H k kr s) (hs : Sub H H') (hF : Sub F F') (hF' : Sub F' H') (hk : F' k = none) (hn : ∀ q o, F' q = some o → F q = some o ∨ H q = none) : AgK F' H' k kr s := by
  obtain ⟨h1, h2, F1, got, x, h3, h4, h5, h6, h7, h8, h9⟩ := h
  refine ⟨hk, ⟨h2.pok, h2.wt, h2.gin, h2.asc, fun m hm => (h2.okG m hm).mono hF, fun m hm => (h2.okS m hm).mono hF⟩, grow F1 (rest H [k]) (rest H' [k]), got, x, h3, h4, ?_, RdS_grow h6 (rest_mono hs), h7, h8.sub hs, h9.mono (grow_le h6.sub)⟩
  refine ⟨fun q o hq => ?_⟩
  rcases hn q o hq with h | h
  · exact (h5.trans (grow_le h6.sub)).le q o h
  · have hqk : q ≠ k := fun e => by rw [e, hk] at hq; cases hq
    rw [grow_at (by rw [rest_at (by simpa using hqk)]; exact h), rest_at (by simpa using hqk)]
    exact hF'.le q o hq
structure MsgR (H : PHeap) (m : Msg) : Prop where
  who : RdL H iE 1 m.2.2.2.2.2.2.2.2.2.2.1.oa m.2.2.2.2.2.2.2.2.2.2.1.n m.2.2.2.2.2.2.2.2.2.2.1.l
  names : RdL H strE 1 m.2.2.2.2.2.2.2.2.2.2.2.1.oa m.2.2.2.2.2.2.2.2.2.2.2.1.n m.2.2.2.2.2.2.2.2.2.2.2.1.l
  data : RdL H Rnd.bE 1 m.2.2.2.2.2.2.2.2.2.2.2.2.oa m.2.2.2.2.2.2.2.2.2.2.2.2.n m.2.2.2.2.2.2.2.2.2.2.2.2.l
end Go.Agr
