/- The contracts of an agreement's object: the beginning, the end, and what is fixed. -/
import Derived.Test.YthcfmcmmmpfjoaaAgrB
namespace Go.Agr
open Go.Vx Go.Vc Go.Proofs Go.Pln Go.Stl
open Go.Rnd (takesG insG froms againG RdS Both OkM AscG)

abbrev tRd : TypeId := 88
theorem rest_mono {H H' : PHeap} {ks : List Nat} (h : Sub H H') : Sub (rest H ks) (rest H' ks) := ⟨fun q o hq => by
  by_cases hm : q ∈ ks
  · rw [rest_none hm] at hq; cases hq
  · rw [rest_at hm] at hq ⊢; exact h.le _ _ hq⟩
/-- What is known beside a round grows. -/
theorem RdS_grow {F H H2 : PHeap} {k : Nat} {asks : List Msg} {wait : List Int} {got : List (Int × Msg)} {tries : Int} (h : RdS F H k asks wait got tries) (hs : Sub H H2) : RdS (grow F H H2) H2 k asks wait got tries := by
  obtain ⟨oa, n, c, ob, m, d, gb, h1, h2, h3, h4, h5, h6, h7, h8⟩ := h.row
  obtain ⟨es, c', g1, _⟩ := h4.out
  exact ⟨grow_sub h.sub hs, grow_off h1 h.off, oa, n, c, ob, m, d, gb, h1.sub hs, h2.mono (grow_le h.sub), h3.mono (grow_le h.sub), h4.mono fun o ho => hs.le _ _ ho, grow_off g1 h5, h6, h7, h8⟩
theorem rd_grow {α : Type} {F H H2 : PHeap} {E : α → List Value} {sz : Nat} {oa : Option Addr} {n : Nat} {l : List α} (h : RdL H2 E sz oa n l) (ho : Off H oa) : RdL (grow F H H2) E sz oa n l :=
  h.part fun a o ha hb => by rw [grow_at (ho a ha)]; exact hb
theorem RdS_bx {F H : PHeap} {k : Nat} {asks : List Msg} {wait : List Int} {got : List (Int × Msg)} {tries : Int} (h : RdS F H k asks wait got tries) : ∃ l, Bx H k tRd l := by
  obtain ⟨oa, n, c, ob, m, d, gb, h1, _⟩ := h.row
  exact ⟨_, h1⟩

/-! ### What is so of an agreement -/
structure SlA (F : PHeap) (s : St) (x : AV) : Prop where
  h : RdL F iE 1 x.h x.hn s.holders
  a : RdL F iE 1 x.a x.an s.acks
  s : RdL F mE 13 x.s x.sn s.said
theorem SlA.mono {F F' : PHeap} {s : St} {x : AV} (h : SlA F s x) (hs : Sub F F') : SlA F' s x := ⟨h.h.mono hs, h.a.mono hs, h.s.mono hs⟩
def jv (fixed : Bool) : Value := if fixed then .func (Fn.func 70) #[] #[] else .func (Fn.func 21) #[] #[]
structure Inv (F : PHeap) (s : St) : Prop where
  pok : s.p.ok = true
  wt : s.wait = ids s.p
  gin : ∀ m ∈ s.G, from_ m ∈ ids s.p
  asc : AscG s.G
  okG : ∀ m ∈ s.G, OkM F m
  okS : ∀ m ∈ s.said, OkM F m
theorem asc_len : ∀ (l : List Int) (lo hi : Int), lo ≤ hi → l.Pairwise (· < ·) → (∀ x ∈ l, lo < x ∧ x ≤ hi) → (l.length : Int) ≤ hi - lo
  | [], lo, hi, h, _, _ => by simp; omega
  | x :: l, lo, hi, h, hp, hx => by
    have h1 := hx x (by simp)
    rw [List.pairwise_cons] at hp
    have := asc_len l x hi h1.2 hp.2 fun y hy => ⟨hp.1 y hy, (hx y (by simp [hy])).2⟩
    rw [List.length_cons]
    omega
theorem ids_mem {p : Plan} {i : Int} (h : i ∈ ids p) : 0 < i ∧ i ≤ p.n := by
  obtain ⟨j, hj, rfl⟩ := List.mem_map.1 h
  rw [List.mem_range] at hj
  omega
theorem Inv.len {F : PHeap} {s : St} (h : Inv F s) : s.G.length ≤ 256 := by
  have pok := Plan.ok_iff.1 h.pok
  have := asc_len (froms s.G) 0 s.p.n (by have := pok.n1; omega) h.asc fun x hx => by
    obtain ⟨m, hm, rfl⟩ := List.mem_map.1 hx
    exact ids_mem (h.gin m hm)
  rw [List.length_map] at this
  have := pok.n2
  omega
structure AgK (F H : PHeap) (k kr : Nat) (s : St) : Prop where
  off : F k = none
  inv : Inv F s
  row : ∃ F1 got x, x.r = at0 kr ∧ x.j = jv s.fixed ∧ Sub F F1 ∧ RdS F1 (rest H [k]) kr s.asks s.wait got s.tries ∧ Both got s.G ∧ Bx H k tAg (cellsA s x) ∧ SlA F1 s x
abbrev AgS (F H : PHeap) (k : Nat) (s : St) : Prop := ∃ kr, AgK F H k kr s
theorem AgK.sub {F H : PHeap} {k kr : Nat} {s : St} (h : AgK F H k kr s) : Sub F H := by
  obtain ⟨_, _, F1, got, x, _, _, h1, h2, _⟩ := h
  exact h1.trans (h2.sub.trans (rest_sub _ _))
theorem AgK.mono {F H H' : PHeap} {k kr : Nat} {s : St} (h : AgK F H k kr s) (hs : Sub H H') : AgK F H' k kr s := by
  obtain ⟨h1, h2, F1, got, x, h3, h4, h5, h6, h7, h8, h9⟩ := h
  exact ⟨h1, h2, F1, got, x, h3, h4, h5, h6.mono (rest_mono hs), h7, h8.sub hs, h9⟩
/-- The round it had is known, and it is another one just if something begins to be fixed. -/
def Moved (s : St) (k0 : Nat) (t : St) (k1 : Nat) (H : PHeap) : Prop := (∃ l, Bx H k0 tRd l) ∧ (!decide (k1 = k0)) = (t.fixed != s.fixed)
/-- What a judgement leaves and says. -/
abbrev Judged (F : PHeap) (k kr : Nat) (s : St) (r : St × List Msg) (v : Value) (H' : PHeap) : Prop := ∃ b n c kr', v = .slice b n c ∧ RdL H' mE 13 b n r.2 ∧ AgK F H' k kr' r.1 ∧ Moved s kr r.1 kr' H'
theorem Moved.stay {F H : PHeap} {k kr : Nat} {s t : St} (h : AgK F H k kr t) (hf : t.fixed = s.fixed) : Moved s kr t kr H := by
  obtain ⟨_, _, F1, got, x, _, _, h1, h2, _⟩ := h
  obtain ⟨l, hl⟩ := RdS_bx h2
  exact ⟨⟨l, hl.sub (rest_sub _ _)⟩, by rw [hf]; simp⟩

/-! ### The end -/
theorem end_ok {F H : PHeap} {k kr : Nat} {s : St} {ok : Bool} (h : AgK F H k kr s) : Triple Try.prog 24 #[.pointer (at0 k), .bool ok] H fun v H' => v = .slice none 0 0 ∧ AgK F H' k kr (s.end_ ok) := by
  obtain ⟨h1, h2, F1, got, x, h3, h4, h5, h6, h7, h8, h9⟩ := h
  have w1 := h8.put (i := 10) (x := .bool true) (by show 10 < 23; decide)
  have b1 : Bx (H.upd k (.cells (cellsA { s with over := true } x).toArray tAg (0, 0))) k tAg (cellsA { s with over := true } x) := Bx.new _ _ _ _
  have w2 := b1.put (i := 14) (x := .bool ok) (by show 14 < 23; decide)
  have r1 : rest (H.upd k (.cells (cellsA { s with over := true } x).toArray tAg (0, 0))) [k] = rest H [k] := rest_upd _ _ _
  refine agEnd.vc (at0 k) ok H _ ⟨obP k, obP k, H.upd k (.cells (cellsA { s with over := true } x).toArray tAg (0, 0)), w1, obP k, obP k, ⟨by simp [at0, fldA]⟩, ?_⟩
  generalize H.upd k (.cells (cellsA { s with over := true } x).toArray tAg (0, 0)) = H1 at w2 b1 r1 ⊢
  refine ⟨H1.upd k (.cells (cellsA (s.end_ ok) x).toArray tAg (0, 0)), w2, rfl, h1, ⟨h2.pok, h2.wt, h2.gin, h2.asc, h2.okG, h2.okS⟩, F1, got, x, h3, h4, h5, ?_, h7, Bx.new _ _ _ _, ⟨h9.h, h9.a, h9.s⟩⟩
  rw [rest_upd, r1]; exact h6

/-! ### A value begins to be fixed -/
theorem obF (k i : Nat) : Ob (fldA (at0 k) i ≠ none) := ⟨by simp [at0, fldA]⟩
theorem AgOk_nil (F : PHeap) (p : Plan) (b : Int) (nm : ByteArray) (a1 a2 a3 a4 a5 a6 : Int) : ∀ m ∈ askAll p b nm (a1, 0, 0, 0, ⟨#[]⟩, a2, a3, a4, a5, a6, ⟨none, 0, 0, []⟩, ⟨none, 0, 0, []⟩, ⟨none, 0, 0, []⟩), OkM F m := fun m hm => by
  obtain ⟨i, _, rfl⟩ := List.mem_map.1 hm
  exact ⟨RdL.nil _ _ _, RdL.nil _ _ _, RdL.nil _ _ _, by simp, by simp, by simp⟩
theorem fixM_ok {F F2 H : PHeap} {k : Nat} {s : St} {x : AV} {v : Val} (hk : F k = none) (hp : s.p.ok = true) (hS : ∀ m ∈ s.said, OkM F m) (hF : Sub F F2) (hF2 : Sub F2 (rest H [k])) (hb : Bx H k tAg (cellsA s x)) (hsl : SlA F2 s x) :
    Triple Try.prog 42 #[.pointer (at0 k), v.v] H fun w H' => ∃ b n c kr F1, w = .slice b n c ∧ Sub F F1 ∧ RdL F1 mE 13 b n (s.fix v).2 ∧ AgK F1 H' k kr (s.fix v).1 ∧ AgK F H' k kr (s.fix v).1 ∧ (rest H [k]) kr = none ∧ Sub (rest H [k]) (rest H' [k]) := by
  have w7 := hb.put (i := 15) (x := .bool true) (by show 15 < 23; decide)
  have b7 : Bx (H.upd k (.cells (cellsA { s with fixed := true } x).toArray tAg (0, 0))) k tAg (cellsA { s with fixed := true } x) := Bx.new _ _ _ _
  have r7 : rest (H.upd k (.cells (cellsA { s with fixed := true } x).toArray tAg (0, 0))) [k] = rest H [k] := rest_upd _ _ _
  refine agFixM.vc (at0 k) v.pr v.at_ v.ep v.sz H _ ⟨rest H [k], rest_sub _ _, obP k, obP k, obF k 14, H.upd k (.cells (cellsA { s with fixed := true } x).toArray tAg (0, 0)), w7, by rw [← r7]; exact rest_sub _ _, obP k, obP k, obF k 14, ?_⟩
  generalize H.upd k (.cells (cellsA { s with fixed := true } x).toArray tAg (0, 0)) = H7 at b7 r7 ⊢
  have w8 := (b7.writes (cellsA { s with fixed := true, value := v } x) rfl).part (A := (cellsA s x).take 14 ++ [.bool s.ok, .bool true]) (l2 := v.c) (B := (cellsA s x).drop 20) (old := s.value.c) b7.reads rfl
  have b8 : Bx (H7.upd k (.cells (cellsA { s with fixed := true, value := v } x).toArray tAg (0, 0))) k tAg (cellsA { s with fixed := true, value := v } x) := Bx.new _ _ _ _
  have r8 : rest (H7.upd k (.cells (cellsA { s with fixed := true, value := v } x).toArray tAg (0, 0))) [k] = rest H [k] := by rw [rest_upd]; exact r7
  refine ⟨H7.upd k (.cells (cellsA { s with fixed := true, value := v } x).toArray tAg (0, 0)), w8, obP k, obP k, ?_⟩
  generalize H7.upd k (.cells (cellsA { s with fixed := true, value := v } x).toArray tAg (0, 0)) = H8 at b8 r8 ⊢
  have w9 := b8.put (i := 13) (x := jv true) (by show 13 < 23; decide)
  have b9 : Bx (H8.upd k (.cells (cellsA { s with fixed := true, value := v } { x with j := jv true }).toArray tAg (0, 0))) k tAg (cellsA { s with fixed := true, value := v } { x with j := jv true }) := Bx.new _ _ _ _
  have r9 : rest (H8.upd k (.cells (cellsA { s with fixed := true, value := v } { x with j := jv true }).toArray tAg (0, 0))) [k] = rest H [k] := by rw [rest_upd]; exact r8
  refine ⟨H8.upd k (.cells (cellsA { s with fixed := true, value := v } { x with j := jv true }).toArray tAg (0, 0)), w9, obP k, obP k, ?_⟩
  generalize H8.upd k (.cells (cellsA { s with fixed := true, value := v } { x with j := jv true }).toArray tAg (0, 0)) = H9 at b9 r9 ⊢
  have fin : ∀ {H17 : PHeap}, Sub H9 H17 → Triple Try.prog 22 #[.pointer (at0 k), Rnd.vM (mfix s.mark v)] H17 fun w H' => ∃ a n c, w = .slice a n c ∧ ∃ b n' c' kr F1, Value.slice a n c = .slice b n' c' ∧ Sub F F1 ∧ RdL F1 mE 13 b n' (s.fix v).2 ∧ AgK F1 H' k kr (s.fix v).1 ∧ AgK F H' k kr (s.fix v).1 ∧ (rest H [k]) kr = none ∧ Sub (rest H [k]) (rest H' [k]) := fun hs17 => by
    refine (agAll_ok (s := { s with fixed := true, value := v }) (x := { x with j := jv true }) (m := mfix s.mark v) hp (b9.sub hs17)).mono ?_
    rintro _ H' ⟨b, n, c, F1, kr, rfl, hrd, hF1, hR, hb'⟩
    have hs1 : Sub (rest H [k]) F1 := by rw [← r9]; exact (rest_mono hs17).trans hF1
    have hsl1 := hsl.mono (hF2.trans hs1)
    have hF1' := hF.trans (hF2.trans hs1)
    refine ⟨b, n, c, rfl, b, n, c, kr, F1, rfl, hF1', hrd, ⟨hR.sub.none (rest_none (by simp)), ⟨hp, rfl, (fun m hm => by cases hm), List.Pairwise.nil, (fun m hm => by cases hm), fun m hm => (hS m hm).mono hF1'⟩, F1, [], _, rfl, rfl, Sub.refl _, hR, Rnd.Both.nil, hb', ⟨hsl1.h, hsl1.a, hsl1.s⟩⟩,
      ⟨hk, ⟨hp, rfl, (fun m hm => by cases hm), List.Pairwise.nil, (fun m hm => by cases hm), hS⟩, F1, [], _, rfl, rfl, hF1', hR, Rnd.Both.nil, hb', ⟨hsl1.h, hsl1.a, hsl1.s⟩⟩, hs1.none hR.off, hs1.trans hR.sub⟩
  refine ⟨s.mark, b9.fld rfl, fun k11 hk11 => ?_⟩
  let z : List Value := [vI 0, vI 0, vI 0, vI 0, .string ⟨#[]⟩, vI 0, vI 0, vI 0, vI 0, vI 0, .slice none 0 0, .slice none 0 0, .slice none 0 0]
  let M : Int → Int → Int → Int → List Value := fun a e z w => [vI 4, vI 0, vI 0, vI 0, .string ⟨#[]⟩, vI a, vI e, vI s.mark, vI z, vI w, .slice none 0 0, .slice none 0 0, .slice none 0 0]
  have b11 : Bx (H9.upd k11 (.cells z.toArray 32 (0, 0))) k11 32 z := Bx.new _ _ _ _
  have s11 : Sub H9 (H9.upd k11 (.cells z.toArray 32 (0, 0))) := Sub.upd _ hk11
  have w12 := b11.writes (M 0 0 0 0) rfl
  have b12 : Bx ((H9.upd k11 (.cells z.toArray 32 (0, 0))).upd k11 (.cells (M 0 0 0 0).toArray 32 (0, 0))) k11 32 (M 0 0 0 0) := Bx.new _ _ _ _
  have s12 := s11.wr (o := .cells (M 0 0 0 0).toArray 32 (0, 0)) hk11
  refine ⟨_, w12, ?_⟩
  generalize (H9.upd k11 (.cells z.toArray 32 (0, 0))).upd k11 (.cells (M 0 0 0 0).toArray 32 (0, 0)) = H12 at b12 s12 ⊢
  refine ⟨fun e => ?_, fun e => ?_⟩
  · have hm : mfix s.mark v = (4, 0, 0, 0, ⟨#[]⟩, v.at_, v.ep, s.mark, v.sz, 1, ⟨none, 0, 0, []⟩, ⟨none, 0, 0, []⟩, ⟨none, 0, 0, []⟩) := by unfold mfix; rw [e]; rfl
    rw [hm] at fin
    have w14 := b12.put (i := 9) (x := vI 1) (by show 9 < 13; decide)
    have b14 : Bx (H12.upd k11 (.cells (M 0 0 0 1).toArray 32 (0, 0))) k11 32 (M 0 0 0 1) := Bx.new _ _ _ _
    have s14 := s12.wr (o := .cells (M 0 0 0 1).toArray 32 (0, 0)) hk11
    refine ⟨H9, s12, obP k11, H12.upd k11 (.cells (M 0 0 0 1).toArray 32 (0, 0)), w14, s14, obP k11, ?_⟩
    generalize H12.upd k11 (.cells (M 0 0 0 1).toArray 32 (0, 0)) = H14 at b14 s14 ⊢
    have w15 := b14.put (i := 5) (x := vI v.at_) (by show 5 < 13; decide)
    have b15 : Bx (H14.upd k11 (.cells (M v.at_ 0 0 1).toArray 32 (0, 0))) k11 32 (M v.at_ 0 0 1) := Bx.new _ _ _ _
    have s15 := s14.wr (o := .cells (M v.at_ 0 0 1).toArray 32 (0, 0)) hk11
    refine ⟨H14.upd k11 (.cells (M v.at_ 0 0 1).toArray 32 (0, 0)), w15, s15, obP k11, ?_⟩
    generalize H14.upd k11 (.cells (M v.at_ 0 0 1).toArray 32 (0, 0)) = H15 at b15 s15 ⊢
    have w16 := b15.put (i := 6) (x := vI v.ep) (by show 6 < 13; decide)
    have b16 : Bx (H15.upd k11 (.cells (M v.at_ v.ep 0 1).toArray 32 (0, 0))) k11 32 (M v.at_ v.ep 0 1) := Bx.new _ _ _ _
    have s16 := s15.wr (o := .cells (M v.at_ v.ep 0 1).toArray 32 (0, 0)) hk11
    refine ⟨H15.upd k11 (.cells (M v.at_ v.ep 0 1).toArray 32 (0, 0)), w16, s16, obP k11, ?_⟩
    generalize H15.upd k11 (.cells (M v.at_ v.ep 0 1).toArray 32 (0, 0)) = H16 at b16 s16 ⊢
    have w17 := b16.put (i := 8) (x := vI v.sz) (by show 8 < 13; decide)
    have b17 : Bx (H16.upd k11 (.cells (M v.at_ v.ep v.sz 1).toArray 32 (0, 0))) k11 32 (M v.at_ v.ep v.sz 1) := Bx.new _ _ _ _
    have s17 := s16.wr (o := .cells (M v.at_ v.ep v.sz 1).toArray 32 (0, 0)) hk11
    exact ⟨H16.upd k11 (.cells (M v.at_ v.ep v.sz 1).toArray 32 (0, 0)), w17, _, _, _, _, _, _, _, _, _, _, _, _, _, _, _, _, _, _, _, b17.reads, fin s17⟩
  · have hm : mfix s.mark v = (4, 0, 0, 0, ⟨#[]⟩, 0, 0, s.mark, 0, 0, ⟨none, 0, 0, []⟩, ⟨none, 0, 0, []⟩, ⟨none, 0, 0, []⟩) := by unfold mfix; rw [e]; rfl
    rw [hm] at fin
    exact ⟨_, _, _, _, _, _, _, _, _, _, _, _, _, _, _, _, _, _, _, b12.reads, fin s12⟩
end Go.Agr
