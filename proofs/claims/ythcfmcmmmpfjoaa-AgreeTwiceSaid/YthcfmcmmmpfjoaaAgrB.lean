/- The contracts of an agreement's object: what it holds, and what is asked of all. -/
import Derived.Test.YthcfmcmmmpfjoaaAgrA
import Derived.Test.YthcfmcmmmpfjoaaVcPlanL
import Derived.Test.YthcfmcmmmpfjoaaVcAgree
namespace Go.Agr
open Go.Vx Go.Vc Go.Proofs Go.Pln Go.Stl
open Go.Rnd (takesG insG froms againG RdS Both OkM AscG)

theorem rest_upd (H : PHeap) (k : Nat) (o : Obj) : rest (H.upd k o) [k] = rest H [k] := funext fun q => by
  by_cases h : q = k
  · rw [h, rest_none (by simp), rest_none (by simp)]
  · rw [rest_at (by simpa using h), rest_at (by simpa using h), Vx.upd_ne _ _ h]
/-- A call that is made without a variable leaves it. -/
theorem callR {P : Program} {f : FuncId} {args : Array Value} {H : PHeap} {k : Nat} {t : TypeId} {l : List Value} {Q : Value → PHeap → Prop} (h : Triple P f args (rest H [k]) Q) (hb : Bx H k t l) :
    Triple P f args H fun v H' => ∃ G, Q v G ∧ Sub G (rest H' [k]) ∧ Bx H' k t l :=
  (h.frame (rest_sub H [k])).mono fun _ _ ⟨G, h1, h2, h3⟩ => by
    obtain ⟨h4, h5⟩ := h3 k _ hb (rest_none (by simp))
    exact ⟨G, h1, rest_le h2 (by simpa using h5), h4⟩

/-! ### The custodians' numbers -/
def idsN (j : Nat) : List Int := (List.range j).map fun i : Nat => (i : Int) + 1
theorem idsN_succ (j : Nat) : idsN (j + 1) = idsN j ++ [(j : Int) + 1] := by simp [idsN, List.range_succ]
theorem ids_eq (p : Plan) : ids p = idsN p.n.toNat := rfl
theorem idsN_len (j : Nat) : (idsN j).length = j := by simp [idsN]
abbrev GivesI (l : List Int) (H : PHeap) (v : Value) (H' : PHeap) : Prop := ∃ b n c, v = .slice b n c ∧ OwnL H' 3 iE 1 b n c l ∧ Sub H H' ∧ Off H b
theorem planAll1_ok {H : PHeap} {k : Nat} {p : Plan} (hp : p.ok = true) (hb : Bx H k 23 [vI p.n, vI p.t, vI p.l, vI p.w, vI p.s, vI p.r]) : Triple Try.prog 72 #[.pointer (at0 k)] H (GivesI (ids p) H) := by
  have pok := Plan.ok_iff.1 hp
  have h1 := pok.n1
  have h2 := pok.n2
  refine planAll1.vc (at0 k) H _ ⟨obP k, p.n, hb.fld rfl, fun t H' => match t with | [.slice b m q, .int _ i] => 0 ≤ i ∧ i ≤ p.n ∧ OwnL H' 3 iE 1 b m q (idsN i.toNat) ∧ Sub H H' ∧ Off H b | _ => False, fun t _ => match t with | [_, .int _ i] => (p.n - i).toNat | _ => 0, ⟨by omega, by omega, Owns.nil _ _ 1, Sub.refl _, Off.none _⟩, ?_⟩
  rintro b m q i H9 ⟨i0, i1, ho, hs, hoff⟩
  obtain ⟨i, rfl⟩ : ∃ j : Nat, i = j := ⟨i.toNat, by omega⟩
  rw [Int.toNat_natCast] at ho
  refine ⟨fun hi k10 hk10 => ?_, fun hi => ?_⟩
  · have hi' : (i : Int) < p.n := by simpa using hi
    have hml := (ho.rd (E := iE) (sz := 1) (by omega) Rnd.iLen).len
    rw [idsN_len] at hml
    rw [Rnd.wrapS (by omega) (by omega)]
    refine append_one Rnd.tI (E := iE) (x := (i : Int) + 1) hk10 Rnd.iLen ho rfl (Rnd.iOne _) (by simp [maxLen]; omega) (by omega) ?_
    intro b' q' H' how hf hfr _
    refine ⟨b', m + 1, q', rfl, ⟨by omega, by omega, ?_, hf.sub hs hoff, hfr.off hs hoff⟩, ⟨by simp only; omega⟩⟩
    rw [show ((i : Int) + 1).toNat = i + 1 by omega, idsN_succ]; exact how
  · have hi' : ¬ (i : Int) < p.n := by simpa using hi
    rw [show i = p.n.toNat by omega] at ho
    exact ⟨b, m, q, rfl, ho, hs, hoff⟩
theorem planAll_ok {H : PHeap} {p : Plan} (hp : p.ok = true) : Triple Try.prog 43 #[p.v] H (GivesI (ids p) H) := by
  refine planAll.vc p.n p.t p.l p.w p.s p.r H _ fun k7 hk7 => ?_
  have hs := Sub.upd (.cells #[vI p.n, vI p.t, vI p.l, vI p.w, vI p.s, vI p.r] 23 (0, 0)) hk7
  have hb := Bx.new H k7 23 [vI p.n, vI p.t, vI p.l, vI p.w, vI p.s, vI p.r]
  refine ⟨p.n, p.t, p.l, p.w, p.s, p.r, hb.reads, planOfL.vc p.n p.t p.l p.w p.s p.r _ _ _ ((right_ok p).use ⟨_, rfl, fun e => ?_, fun e => CallY.fn (by kernel_rfl) ((planAll1_ok hp hb).mono ?_)⟩)⟩
  · rw [hp] at e; cases e
  · rintro _ H' ⟨b, n, c, rfl, h1, h2, h3⟩
    exact ⟨_, _, _, rfl, _, _, _, rfl, b, n, c, rfl, h1, hs.trans h2, h3.sub hs⟩
theorem refPAll_ok {H : PHeap} {p : Plan} (hp : p.ok = true) : Triple Try.prog 54 #[p.v] H (GivesI (ids p) H) := by
  have pok := Plan.ok_iff.1 hp
  have h1 := pok.n1
  have h2 := pok.n2
  refine refPAll.vc p.n p.t p.l p.w p.s p.r H _ ⟨fun t H' => match t with | [.slice b m q, .int _ i] => 1 ≤ i ∧ i ≤ p.n + 1 ∧ OwnL H' 3 iE 1 b m q (idsN (i.toNat - 1)) ∧ Sub H H' ∧ Off H b | _ => False, fun t _ => match t with | [_, .int _ i] => (p.n + 1 - i).toNat | _ => 0, ⟨by omega, by omega, Owns.nil _ _ 1, Sub.refl _, Off.none _⟩, ?_⟩
  rintro b m q i H9 ⟨i0, i1, ho, hs, hoff⟩
  obtain ⟨i, rfl⟩ : ∃ j : Nat, i = (j : Int) + 1 := ⟨i.toNat - 1, by omega⟩
  rw [show ((i : Int) + 1).toNat - 1 = i by omega] at ho
  refine ⟨fun hi k10 hk10 => ?_, fun hi => ?_⟩
  · have hi' : (i : Int) + 1 ≤ p.n := by simpa using hi
    have hml := (ho.rd (E := iE) (sz := 1) (by omega) Rnd.iLen).len
    rw [idsN_len] at hml
    rw [Rnd.wrapS (i := (i : Int) + 1) (by omega) (by omega)]
    refine append_one Rnd.tI (E := iE) (x := (i : Int) + 1) hk10 Rnd.iLen ho rfl (Rnd.iOne _) (by simp [maxLen]; omega) (by omega) ?_
    intro b' q' H' how hf hfr _
    refine ⟨b', m + 1, q', rfl, ⟨by omega, by omega, ?_, hf.sub hs hoff, hfr.off hs hoff⟩, ⟨by simp only; omega⟩⟩
    rw [show ((i : Int) + 1 + 1).toNat - 1 = i + 1 by omega, idsN_succ]; exact how
  · have hi' : ¬ (i : Int) + 1 ≤ p.n := by simpa using hi
    rw [show i = p.n.toNat by omega] at ho
    exact ⟨b, m, q, rfl, ho, hs, hoff⟩

/-! ### The object -/
/-- What lies in an agreement beside its state. -/
structure AV where
  r : Option Addr
  j : Value
  h : Option Addr
  hn : Nat
  hc : Nat
  a : Option Addr
  an : Nat
  ac : Nat
  s : Option Addr
  sn : Nat
  sc : Nat
abbrev cellsA (s : St) (x : AV) : List Value :=
  [vI s.p.n, vI s.p.t, vI s.p.l, vI s.p.w, vI s.p.s, vI s.p.r, vI s.ballot, .string s.name, .bool s.force, .bool s.live, .bool s.over, vI s.mark, .pointer x.r, x.j,
   .bool s.ok, .bool s.fixed, .bool s.value.pr, vI s.value.at_, vI s.value.ep, vI s.value.sz, .slice x.h x.hn x.hc, .slice x.a x.an x.ac, .slice x.s x.sn x.sc]
abbrev tAg : TypeId := 66
def toAll (b : Int) (nm : ByteArray) (m : Msg) (l : List Int) : List Msg := l.map fun i => (m.1, m.2.1, i, b, nm, m.2.2.2.2.2)
theorem toAll_snoc (b : Int) (nm : ByteArray) (m : Msg) (l : List Int) (i : Int) : toAll b nm m (l ++ [i]) = toAll b nm m l ++ [(m.1, m.2.1, i, b, nm, m.2.2.2.2.2)] := by simp [toAll]
theorem toAll_len (b : Int) (nm : ByteArray) (m : Msg) (l : List Int) : (toAll b nm m l).length = l.length := by simp [toAll]
theorem agAll_ok {H : PHeap} {k : Nat} {s : St} {x : AV} {m : Msg} (hp : s.p.ok = true) (hb : Bx H k tAg (cellsA s x)) :
    Triple Try.prog 22 #[.pointer (at0 k), vM m] H fun v H' => ∃ b n c F1 kr, v = .slice b n c ∧ RdL F1 mE 13 b n (askAll s.p s.ballot s.name m) ∧ Sub (rest H [k]) F1 ∧
      RdS F1 (rest H' [k]) kr (askAll s.p s.ballot s.name m) (ids s.p) [] (maxI s.p.r 0) ∧ Bx H' k tAg (cellsA s { x with r := at0 kr }) := by
  have pok := Plan.ok_iff.1 hp
  have pn1 := pok.n1
  have pn2 := pok.n2
  obtain ⟨y1, y2, y3, y4, y5, y6, y7, y8, y9, y10, ⟨ya, yb, yc, yl⟩, ⟨za, zb, zc, zl⟩, ⟨wa, wb, wc, wl⟩⟩ := m
  refine agAll.vc (at0 k) y1 y2 y3 y4 y5 y6 y7 y8 y9 y10 ya yb yc za zb zc wa wb wc H _ fun k21 hk21 => ?_
  let M : Int → Int → ByteArray → Msg := fun t b nm => (y1, y2, t, b, nm, y6, y7, y8, y9, y10, ⟨ya, yb, yc, yl⟩, ⟨za, zb, zc, zl⟩, ⟨wa, wb, wc, wl⟩)
  have b0 : Bx (H.upd k21 (.cells (mE (M y3 y4 y5)).toArray 32 (0, 0))) k21 32 (mE (M y3 y4 y5)) := Bx.new _ _ _ _
  have s0 : Sub H (H.upd k21 (.cells (mE (M y3 y4 y5)).toArray 32 (0, 0))) := Sub.upd _ hk21
  have w25 := b0.put (i := 3) (x := vI s.ballot) (by show 3 < 13; decide)
  have b25 : Bx ((H.upd k21 (.cells (mE (M y3 y4 y5)).toArray 32 (0, 0))).upd k21 (.cells (mE (M y3 s.ballot y5)).toArray 32 (0, 0))) k21 32 (mE (M y3 s.ballot y5)) := Bx.new _ _ _ _
  have s25 : Sub H ((H.upd k21 (.cells (mE (M y3 y4 y5)).toArray 32 (0, 0))).upd k21 (.cells (mE (M y3 s.ballot y5)).toArray 32 (0, 0))) := s0.wr hk21
  refine ⟨H, s0, obP k, obP k, _, hb.fld rfl, obP k, obP k, _, hb.fld rfl, obP k21, _, w25, s25, obP k21, ?_⟩
  generalize hH25 : (H.upd k21 (.cells (mE (M y3 y4 y5)).toArray 32 (0, 0))).upd k21 (.cells (mE (M y3 s.ballot y5)).toArray 32 (0, 0)) = H25 at b25 s25
  have w26 := b25.put (i := 4) (x := .string s.name) (by show 4 < 13; decide)
  have b26 : Bx (H25.upd k21 (.cells (mE (M y3 s.ballot s.name)).toArray 32 (0, 0))) k21 32 (mE (M y3 s.ballot s.name)) := Bx.new _ _ _ _
  have s26 : Sub H (H25.upd k21 (.cells (mE (M y3 s.ballot s.name)).toArray 32 (0, 0))) := s25.wr hk21
  refine ⟨H25.upd k21 (.cells (mE (M y3 s.ballot s.name)).toArray 32 (0, 0)), by rw [← hH25] at w26 ⊢; exact w26, obP k, obP k, ?_⟩
  generalize H25.upd k21 (.cells (mE (M y3 s.ballot s.name)).toArray 32 (0, 0)) = H26 at b26 s26 ⊢
  have rp : ∀ {G : PHeap}, Sub H G → Reads G (fldA (at0 k) 0) [vI s.p.n, vI s.p.t, vI s.p.l, vI s.p.w, vI s.p.s, vI s.p.r] := fun hs => (hb.sub hs).readsAt 0 fun j v hv => by
    match j, hv with
    | 0, hv => exact hv
    | 1, hv => exact hv
    | 2, hv => exact hv
    | 3, hv => exact hv
    | 4, hv => exact hv
    | 5, hv => exact hv
    | j + 6, hv => simp at hv
  refine ⟨_, _, _, _, _, _, rp s26, (planAll_ok hp).mono ?_⟩
  rintro _ H34 ⟨b35, n36, c37, rfl, o35, s34, f35⟩
  have hids := o35.rd (E := iE) (sz := 1) (by omega) Rnd.iLen
  have hidl := hids.len
  rw [ids_len] at hidl
  have hne35 := f35.ne b26
  have hidr := hids.rest (ks := [k21]) fun a ha => by simpa using hne35 a ha
  have b34 := b26.sub s34
  have sH : Sub H (rest H34 [k21]) := rest_le (s26.trans s34) (by simpa using hk21)
  refine ⟨_, _, _, rfl, fun t H' => match t with | [.slice b mm q, .int _ i] => 0 ≤ i ∧ i ≤ n36 ∧ Sub (rest H34 [k21]) H' ∧ (∃ t, Bx H' k21 32 (mE (M t s.ballot s.name))) ∧ OwnL H' 32 mE 13 b mm q (toAll s.ballot s.name (M y3 y4 y5) ((ids s.p).take i.toNat)) ∧ Off (rest H34 [k21]) b ∧ ∀ a, b = some a → a.block ≠ k21 | _ => False, fun t _ => match t with | [_, .int _ i] => (n36 - i).toNat | _ => 0, ⟨by omega, by omega, rest_sub _ _, ⟨y3, b34⟩, Owns.nil _ _ 13, Off.none _, fun a h => by cases h⟩, ?_⟩
  rintro b mm q i H44 ⟨i0, i1, s44, ⟨t, b44⟩, ho, hoff, hne⟩
  obtain ⟨i, rfl⟩ : ∃ j : Nat, i = j := ⟨i.toNat, by omega⟩
  rw [Int.toNat_natCast] at ho
  have hml := (ho.rd (E := mE) (sz := 13) (by omega) Rnd.mLen).len
  rw [toAll_len, List.length_take, ids_len] at hml
  refine ⟨fun hi => ?_, fun hi => ?_⟩
  · have hi' : i < n36 := by simpa using hi
    have hid44 := hidr.mono s44
    obtain ⟨z, hz, hzr⟩ := hid44.ex (i := (i : Int)) (by omega) (by omega)
    rw [Int.toNat_natCast] at hz
    have w46 := b44.put (i := 2) (x := vI z) (by show 2 < 13; decide)
    have b46 : Bx (H44.upd k21 (.cells (mE (M z s.ballot s.name)).toArray 32 (0, 0))) k21 32 (mE (M z s.ballot s.name)) := Bx.new _ _ _ _
    have s46 : Sub (rest H34 [k21]) (H44.upd k21 (.cells (mE (M z s.ballot s.name)).toArray 32 (0, 0))) := s44.wr (rest_none (by simp))
    have ho46 : OwnL (H44.upd k21 (.cells (mE (M z s.ballot s.name)).toArray 32 (0, 0))) 32 mE 13 b mm q (toAll s.ballot s.name (M y3 y4 y5) ((ids s.p).take i)) := ho.mono fun a o ha h => by rw [Vx.upd_ne _ _ (hne a ha)]; exact h
    rw [Rnd.wrapS (by omega) (by omega)]
    refine ⟨hid44.ob (by omega) (by omega), z, hzr, obP k21, _, w46, ?_⟩
    have hw46 : H44.upd k21 (.cells ((mE (M t s.ballot s.name)).set 2 (vI z)).toArray 32 (0, 0)) = H44.upd k21 (.cells (mE (M z s.ballot s.name)).toArray 32 (0, 0)) := rfl
    rw [hw46]
    generalize H44.upd k21 (.cells (mE (M z s.ballot s.name)).toArray 32 (0, 0)) = H46 at b46 s46 ho46 ⊢
    refine ⟨_, _, _, _, _, _, _, _, _, _, _, _, _, _, _, _, _, _, _, b46.reads, fun k66 hk66 => ?_⟩
    refine append_one Rnd.tM (E := mE) (x := M z s.ballot s.name) hk66 Rnd.mLen ho46 rfl (Rnd.mOne _) (by simp [maxLen]; omega) (by omega) ?_
    intro b' q' H' how hf hfr _
    refine ⟨b', mm + 1, q', rfl, ⟨by omega, by omega, hf.sub s46 hoff, ⟨z, hf.bx b46 hne⟩, ?_, hfr.off s46 hoff, hfr.ne b46 hne⟩, ⟨by simp only; omega⟩⟩
    rw [show ((i : Int) + 1).toNat = i + 1 by omega, List.take_add_one, hz]
    exact (toAll_snoc s.ballot s.name (M y3 y4 y5) _ z).symm ▸ how
  · have hi' : ¬ i < n36 := by simpa using hi
    rw [List.take_of_length_le (by rw [ids_len]; omega)] at ho
    have s44H := sH.trans s44
    refine ⟨H, s44H, obP k, obP k, obP k, _, hb.fld (i := 5) rfl, obP k, obP k, _, _, _, _, _, _, rp (Sub.refl _), (planAll_ok hp).mono ?_⟩
    rintro _ H81 ⟨b82, n83, c84, rfl, o82, s81, f82⟩
    have hb44 := hb.sub s44H
    have hb81 := hb44.sub s81
    have hne82 := f82.ne hb44
    have hbne : ∀ a, b = some a → a.block ≠ k := Off.ne hoff (o := .cells (cellsA s x).toArray tAg (0, 0)) (hb.sub sH)
    have r1 := ((ho.rd (E := mE) (sz := 13) (by omega) Rnd.mLen).mono s81).rest (ks := [k]) fun a ha => by simpa using hbne a ha
    have r2 := (o82.rd (E := iE) (sz := 1) (by omega) Rnd.iLen).rest (ks := [k]) fun a ha => by simpa using hne82 a ha
    have l2 := r2.len
    rw [ids_len] at l2
    refine ⟨_, _, _, rfl, s44H.trans s81, (callR (Rnd.new_ok (tries := s.p.r) r1 r2 (by omega) (by omega)) hb81).mono ?_⟩
    rintro _ H86 ⟨G, ⟨kr, F', rfl, hR, hF'⟩, hG, hb86⟩
    have w88 := hb86.put (i := 12) (x := .pointer (at0 kr)) (by show 12 < 23; decide)
    refine ⟨_, rfl, obP k, obP k, _, w88, b, mm, q, F', kr, rfl, ?_, ?_, ?_, Bx.new _ _ _ _⟩
    · exact r1.mono hF'
    · refine Sub.trans ?_ hF'
      exact rest_le ((rest_sub H [k]).trans (s44H.trans s81)) (by simpa using rest_none (by simp))
    · rw [rest_upd]; exact hR.mono hG
end Go.Agr
