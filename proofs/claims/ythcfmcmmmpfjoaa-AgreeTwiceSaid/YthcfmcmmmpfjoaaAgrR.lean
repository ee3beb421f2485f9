/- The document's agreement: how it begins. -/
import Derived.Test.YthcfmcmmmpfjoaaAgrL
import Derived.Test.YthcfmcmmmpfjoaaVcAgreeR
namespace Go.Agr
open Go.Vx Go.Vc Go.Proofs Go.Pln Go.Stl
open Go.Rnd (takesG insG froms againG RdR RV OkM AscG)

theorem raAll_ok {H : PHeap} {p : Plan} {b : Int} {nm : ByteArray} {m : Msg} (hp : p.ok = true) (hb : m.2.2.2.1 = b) (hnm : m.2.2.2.2.1 = nm) :
    Triple Try.prog 52 #[p.v, Rnd.vM m] H fun v H' => ∃ a n c, v = .slice a n c ∧ OwnL H' 32 mE 13 a n c (askAll p b nm m) ∧ Sub H H' ∧ Off H a := by
  have pok := Plan.ok_iff.1 hp
  have h1 := pok.n1
  have h2 := pok.n2
  obtain ⟨y1, y2, y3, y4, y5, y6, y7, y8, y9, y10, ⟨ya, yb, yc, yl⟩, ⟨za, zb, zc, zl⟩, ⟨wa, wb, wc, wl⟩⟩ := m
  have hb' : y4 = b := hb
  have hnm' : y5 = nm := hnm
  rw [← hb', ← hnm']
  let M : Int → Msg := fun t => (y1, y2, t, y4, y5, y6, y7, y8, y9, y10, ⟨ya, yb, yc, yl⟩, ⟨za, zb, zc, zl⟩, ⟨wa, wb, wc, wl⟩)
  refine raAll.vc p.n p.t p.l p.w p.s p.r y1 y2 y3 y4 y5 y6 y7 y8 y9 y10 ya yb yc za zb zc wa wb wc H _ ⟨fun t H' => match t with | [.slice b m q, .int _ i, v] => 1 ≤ i ∧ i ≤ p.n + 1 ∧ (∃ t, v = Rnd.vM (M t)) ∧ OwnL H' 32 mE 13 b m q (toAll y4 y5 (M y3) (idsN (i.toNat - 1))) ∧ Sub H H' ∧ Off H b | _ => False, fun t _ => match t with | [_, .int _ i, _] => (p.n + 1 - i).toNat | _ => 0, ⟨by omega, by omega, ⟨y3, rfl⟩, Owns.nil _ _ 13, Sub.refl _, Off.none _⟩, ?_⟩
  rintro b m q i n32 n33 n34 n35 s36 n37 n38 n39 n40 n41 a42 k43 k44 a45 k46 k47 a48 k49 k50 H9 ⟨i0, i1, ⟨t, ht⟩, ho, hs, hoff⟩
  simp only [Value.agg.injEq] at ht
  have ht' := congrArg Array.toList ht
  simp [M, pairE, intE, strE, Sl.E] at ht'
  obtain ⟨rfl, rfl, rfl, rfl, rfl, rfl, rfl, rfl, rfl, rfl, ⟨rfl, rfl, rfl⟩, ⟨rfl, rfl, rfl⟩, rfl, rfl, rfl⟩ := ht'
  obtain ⟨i, rfl⟩ : ∃ j : Nat, i = (j : Int) + 1 := ⟨i.toNat - 1, by omega⟩
  rw [show ((i : Int) + 1).toNat - 1 = i by omega] at ho
  refine ⟨fun hi k10 hk10 => ?_, fun hi => ?_⟩
  · have hi' : (i : Int) + 1 ≤ p.n := by simpa using hi
    have hml := (ho.rd (E := mE) (sz := 13) (by omega) Rnd.mLen).len
    rw [toAll_len, idsN_len] at hml
    rw [Rnd.wrapS (i := (i : Int) + 1) (by omega) (by omega)]
    refine append_one Rnd.tM (E := mE) (x := M ((i : Int) + 1)) hk10 Rnd.mLen ho rfl (Rnd.mOne _) (by simp [maxLen]; omega) (by omega) ?_
    intro b' q' H' how hf hfr _
    refine ⟨b', m + 1, q', rfl, ⟨by omega, by omega, ⟨(i : Int) + 1, rfl⟩, ?_, hf.sub hs hoff, hfr.off hs hoff⟩, ⟨by simp only; omega⟩⟩
    rw [show ((i : Int) + 1 + 1).toNat - 1 = i + 1 by omega, idsN_succ, toAll_snoc]; exact how
  · have hi' : ¬ (i : Int) + 1 ≤ p.n := by simpa using hi
    rw [show i = p.n.toNat by omega] at ho
    exact ⟨b, m, q, rfl, ho, hs, hoff⟩
/-- The state's number. -/
def stt (s : St) : Int := if s.over then 2 else if s.fixed then 1 else 0
abbrev cellsV (s : St) (st : Int) (r : RV) (x : AV) : List Value :=
  [vI s.p.n, vI s.p.t, vI s.p.l, vI s.p.w, vI s.p.s, vI s.p.r, vI s.ballot, .string s.name, .bool s.force, .bool s.live, vI st, vI s.mark, .slice r.a r.an r.ac, .slice r.w r.wn r.wc, .slice r.g r.gn r.gc, vI s.tries,
   .bool s.ok, .bool s.fixed, .bool s.value.pr, vI s.value.at_, vI s.value.ep, vI s.value.sz, .slice x.h x.hn x.hc, .slice x.a x.an x.ac, .slice x.s x.sn x.sc]
/-- A value that is the document's agreement. -/
structure RefA (H : PHeap) (v : Value) (s : St) : Prop where
  inv : Inv H s
  nok : s.over = false → s.ok = false
  row : ∃ r x, v = .agg (cellsV s (stt s) r x).toArray ∧ RdR H r s.asks s.wait s.G ∧ SlA H s x
abbrev RBegan (H : PHeap) (r : St × List Msg) (v : Value) (H' : PHeap) : Prop := ∃ u b n c, v = .tuple #[u, .slice b n c] ∧ RefA H' u r.1 ∧ RdL H' mE 13 b n r.2 ∧ Sub H H'
abbrev tA : TypeId := 51
abbrev zA : List Value := [vI 0, vI 0, vI 0, vI 0, vI 0, vI 0, vI 0, .string ⟨#[]⟩, .bool false, .bool false, vI 0, vI 0, .slice none 0 0, .slice none 0 0, .slice none 0 0, vI 0, .bool false, .bool false, .bool false, vI 0, vI 0, vI 0, .slice none 0 0, .slice none 0 0, .slice none 0 0]
def r0 : RV := ⟨none, 0, 0, none, 0, 0, none, 0, 0⟩
theorem raSettle_ok {H : PHeap} {p : Plan} {b : Int} {nm : ByteArray} {force : Bool} (hp : p.ok = true) :
    Triple Try.prog 30 #[p.v, vI b, .string nm, .bool force] H (RBegan H ((init0 p b nm force false (IntKind.i64.wrap (2 * b))).ask mask)) := by
  refine raSettle.vc p.n p.t p.l p.w p.s p.r b nm force H _ fun k10 hk10 => ?_
  have s0 := Sub.upd (.cells zA.toArray tA (0, 0)) hk10
  have b0 : Bx (H.upd k10 (.cells zA.toArray tA (0, 0))) k10 tA zA := Bx.new _ _ _ _
  let S : St := init0 p b nm force false (IntKind.i64.wrap (2 * b))
  have w11 := b0.writes (cellsV S 0 r0 x0) rfl
  have b11 : Bx ((H.upd k10 (.cells zA.toArray tA (0, 0))).upd k10 (.cells (cellsV S 0 r0 x0).toArray tA (0, 0))) k10 tA (cellsV S 0 r0 x0) := Bx.new _ _ _ _
  have s11 := s0.wr (o := .cells (cellsV S 0 r0 x0).toArray tA (0, 0)) hk10
  refine ⟨_, w11, ?_⟩
  generalize (H.upd k10 (.cells zA.toArray tA (0, 0))).upd k10 (.cells (cellsV S 0 r0 x0).toArray tA (0, 0)) = H11 at b11 s11 ⊢
  refine (refRight_ok p).use ⟨_, rfl, fun e => (by rw [hp] at e; cases e), fun _ => ?_⟩
  refine (raAll_ok (p := p) (b := b) (nm := nm) (m := (1, 0, 0, b, nm, 0, 0, 0, 0, 0, ⟨none, 0, 0, []⟩, ⟨none, 0, 0, []⟩, ⟨none, 0, 0, []⟩)) hp rfl rfl).mono ?_
  rintro _ H54 ⟨a55, n56, c57, rfl, o55, s54, f55⟩
  refine ⟨a55, n56, c57, rfl, H, s11.trans s54, (refPAll_ok hp).mono ?_⟩
  rintro _ H60 ⟨a61, n62, c63, rfl, o61, s60, f61⟩
  refine ⟨a61, n62, c63, rfl, (s11.trans s54).trans s60, (Rnd.refNew_ok H60 p.r a55 a61 n56 c57 n62 c63).mono ?_⟩
  rintro _ H65 ⟨rfl, hH⟩
  rw [hH]
  have b60 := (b11.sub s54).sub s60
  have w76 := (b60.writes (cellsV ((init0 p b nm force false (IntKind.i64.wrap (2 * b))).ask mask).1 0 ⟨a55, n56, c57, a61, n62, c63, none, 0, 0⟩ x0) rfl).part (A := (cellsV S 0 r0 x0).take 12) (l2 := [.slice a55 n56 c57, .slice a61 n62 c63, .slice none 0 0, vI (maxI p.r 0)]) (B := (cellsV S 0 r0 x0).drop 16) (old := [.slice none 0 0, .slice none 0 0, .slice none 0 0, vI 0]) b60.reads rfl
  have b76 : Bx (H60.upd k10 (.cells (cellsV ((init0 p b nm force false (IntKind.i64.wrap (2 * b))).ask mask).1 0 ⟨a55, n56, c57, a61, n62, c63, none, 0, 0⟩ x0).toArray tA (0, 0))) k10 tA (cellsV ((init0 p b nm force false (IntKind.i64.wrap (2 * b))).ask mask).1 0 ⟨a55, n56, c57, a61, n62, c63, none, 0, 0⟩ x0) := Bx.new _ _ _ _
  have r1 := ((o55.rd (E := mE) (sz := 13) (by omega) Rnd.mLen).mono s60).frame (ob := at0 k10) (H' := H60.upd k10 (.cells (cellsV ((init0 p b nm force false (IntKind.i64.wrap (2 * b))).ask mask).1 0 ⟨a55, n56, c57, a61, n62, c63, none, 0, 0⟩ x0).toArray tA (0, 0))) (fun q o hq hn => by rw [Vx.upd_ne _ _ (hn _ rfl)]; exact hq) (fun a z ha hz => by cases hz; exact f55.ne b11 a ha)
  have r2 := (o61.rd (E := iE) (sz := 1) (by omega) Rnd.iLen).frame (ob := at0 k10) (H' := H60.upd k10 (.cells (cellsV ((init0 p b nm force false (IntKind.i64.wrap (2 * b))).ask mask).1 0 ⟨a55, n56, c57, a61, n62, c63, none, 0, 0⟩ x0).toArray tA (0, 0))) (fun q o hq hn => by rw [Vx.upd_ne _ _ (hn _ rfl)]; exact hq) (fun a z ha hz => by cases hz; exact f61.ne (b11.sub s54) a ha)
  have s76 := ((s11.trans s54).trans s60).wr (o := .cells (cellsV ((init0 p b nm force false (IntKind.i64.wrap (2 * b))).ask mask).1 0 ⟨a55, n56, c57, a61, n62, c63, none, 0, 0⟩ x0).toArray tA (0, 0)) hk10
  refine ⟨_, _, _, _, _, _, _, _, _, _, rfl, obP k10, _, w76, _, _, _, _, _, _, _, _, _, _, _, _, _, _, _, _, _, _, _, _, _, _, _, _, _, _, _, _, _, _, _, _, _, _, _, _, _, b76.reads, ?_⟩
  exact ⟨_, a55, n56, c57, rfl, ⟨⟨hp, rfl, fun m hm => (by cases hm), List.Pairwise.nil, fun m hm => (by cases hm), fun m hm => (by cases hm)⟩, fun _ => rfl, ⟨a55, n56, c57, a61, n62, c63, none, 0, 0⟩, x0, rfl, ⟨r1, r2, RdL.nil _ _ _, Nat.le_refl 0⟩, ⟨RdL.nil _ _ _, RdL.nil _ _ _, RdL.nil _ _ _⟩⟩, r1, s76⟩
/-- One proof for two places. -/
theorem twice4 {α β γ δ : Type} {T C : α → β → γ → δ → Prop} {G : Prop} (use : (∀ a b c d, C a b c d → T a b c d) → G) (key : ∀ a b c d, C a b c d → T a b c d) : G := use key
theorem raFixM_ok {H : PHeap} {s : St} {st : Int} {r : RV} {x : AV} {v : Val} (hp : s.p.ok = true) (ho : s.over = false) (hk : s.ok = false) (hS : ∀ m ∈ s.said, OkM H m) (hsl : SlA H s x) :
    Triple Try.prog 51 #[.agg (cellsV s st r x).toArray, v.v] H (RBegan H (s.fix v)) := by
  refine raFixM.vc s.p.n s.p.t s.p.l s.p.w s.p.s s.p.r s.ballot s.name s.force s.live st s.mark r.a r.an r.ac r.w r.wn r.wc r.g r.gn r.gc s.tries s.ok s.fixed s.value.pr s.value.at_ s.value.ep s.value.sz x.h x.hn x.hc x.a x.an x.ac x.s x.sn x.sc v.pr v.at_ v.ep v.sz H _ fun k hk0 => ⟨obP k, ?_⟩
  have b0 : Bx (H.upd k (.cells (cellsV s st r x).toArray tA (0, 0))) k tA (cellsV s st r x) := Bx.new _ _ _ _
  have s0 := Sub.upd (.cells (cellsV s st r x).toArray tA (0, 0)) hk0
  have w1 := b0.put (i := 10) (x := vI 1) (by show 10 < 25; decide)
  have b1 : Bx ((H.upd k (.cells (cellsV s st r x).toArray tA (0, 0))).upd k (.cells (cellsV s 1 r x).toArray tA (0, 0))) k tA (cellsV s 1 r x) := Bx.new _ _ _ _
  have s1 := s0.wr (o := .cells (cellsV s 1 r x).toArray tA (0, 0)) hk0
  refine ⟨_, w1, obP k, ?_⟩
  have e1 : (H.upd k (.cells (cellsV s st r x).toArray tA (0, 0))).upd k (.cells ((cellsV s st r x).set 10 (vI 1)).toArray tA (0, 0)) = (H.upd k (.cells (cellsV s st r x).toArray tA (0, 0))).upd k (.cells (cellsV s 1 r x).toArray tA (0, 0)) := rfl
  rw [e1]
  generalize (H.upd k (.cells (cellsV s st r x).toArray tA (0, 0))).upd k (.cells (cellsV s 1 r x).toArray tA (0, 0)) = H1 at b1 s1 ⊢
  have w2 := b1.put (i := 17) (x := .bool true) (by show 17 < 25; decide)
  have b2 : Bx (H1.upd k (.cells (cellsV { s with fixed := true } 1 r x).toArray tA (0, 0))) k tA (cellsV { s with fixed := true } 1 r x) := Bx.new _ _ _ _
  have s2 := s1.wr (o := .cells (cellsV { s with fixed := true } 1 r x).toArray tA (0, 0)) hk0
  refine ⟨H1.upd k (.cells (cellsV { s with fixed := true } 1 r x).toArray tA (0, 0)), w2, obP k, ?_⟩
  generalize H1.upd k (.cells (cellsV { s with fixed := true } 1 r x).toArray tA (0, 0)) = H2 at b2 s2 ⊢
  have w3 := (b2.writes (cellsV { s with fixed := true, value := v } 1 r x) rfl).part (A := (cellsV { s with fixed := true } 1 r x).take 18) (l2 := v.c) (B := (cellsV s st r x).drop 22) (old := s.value.c) b2.reads rfl
  have b3 : Bx (H2.upd k (.cells (cellsV { s with fixed := true, value := v } 1 r x).toArray tA (0, 0))) k tA (cellsV { s with fixed := true, value := v } 1 r x) := Bx.new _ _ _ _
  have s3 := s2.wr (o := .cells (cellsV { s with fixed := true, value := v } 1 r x).toArray tA (0, 0)) hk0
  refine ⟨H2.upd k (.cells (cellsV { s with fixed := true, value := v } 1 r x).toArray tA (0, 0)), w3, obP k, ?_⟩
  generalize H2.upd k (.cells (cellsV { s with fixed := true, value := v } 1 r x).toArray tA (0, 0)) = H45 at b3 s3 ⊢
  have rp : Reads H45 (fldA (at0 k) 0) [vI s.p.n, vI s.p.t, vI s.p.l, vI s.p.w, vI s.p.s, vI s.p.r] := b3.readsAt 0 fun j v hv => by
    match j, hv with
    | 0, hv => exact hv
    | 1, hv => exact hv
    | 2, hv => exact hv
    | 3, hv => exact hv
    | 4, hv => exact hv
    | 5, hv => exact hv
    | j + 6, hv => simp at hv
  refine ⟨_, b3.fld (i := 6) rfl, obP k, _, b3.fld (i := 7) rfl, obP k, _, b3.fld (i := 11) rfl, ?_⟩
  apply twice4 (C := fun (a : Option Addr) (n c : Nat) (H56 : PHeap) => OwnL H56 32 mE 13 a n c (s.fix v).2 ∧ Sub H45 H56 ∧ Off H45 a)
  · intro key
    refine ⟨fun e => ⟨obP k, _, _, _, _, _, _, rp, (raAll_ok (p := s.p) (b := s.ballot) (nm := s.name) (m := (4, 0, 0, s.ballot, s.name, v.at_, v.ep, s.mark, v.sz, 1, ⟨none, 0, 0, []⟩, ⟨none, 0, 0, []⟩, ⟨none, 0, 0, []⟩)) hp rfl rfl).mono ?_⟩, fun e => ⟨obP k, _, _, _, _, _, _, rp, (raAll_ok (p := s.p) (b := s.ballot) (nm := s.name) (m := (4, 0, 0, s.ballot, s.name, 0, 0, s.mark, 0, 0, ⟨none, 0, 0, []⟩, ⟨none, 0, 0, []⟩, ⟨none, 0, 0, []⟩)) hp rfl rfl).mono ?_⟩⟩
    · intro w H56 hw
      obtain ⟨a, n, c, hw1, o, hs, hoff⟩ := hw
      have : (s.fix v).2 = askAll s.p s.ballot s.name (4, 0, 0, s.ballot, s.name, v.at_, v.ep, s.mark, v.sz, 1, ⟨none, 0, 0, []⟩, ⟨none, 0, 0, []⟩, ⟨none, 0, 0, []⟩) := by
        show askAll s.p s.ballot s.name (mfix s.mark v) = _
        unfold mfix askAll; rw [e]; rfl
      exact ⟨a, n, c, hw1, key a n c H56 ⟨by rw [this]; exact o, hs, hoff⟩⟩
    · intro w H56 hw
      obtain ⟨a, n, c, hw1, o, hs, hoff⟩ := hw
      have : (s.fix v).2 = askAll s.p s.ballot s.name (4, 0, 0, s.ballot, s.name, 0, 0, s.mark, 0, 0, ⟨none, 0, 0, []⟩, ⟨none, 0, 0, []⟩, ⟨none, 0, 0, []⟩) := by
        show askAll s.p s.ballot s.name (mfix s.mark v) = _
        unfold mfix askAll; rw [e]; rfl
      exact ⟨a, n, c, hw1, key a n c H56 ⟨by rw [this]; exact o, hs, hoff⟩⟩
  · rintro a57 n58 c59 H56 ⟨o57, s56, f57⟩
    refine ⟨H45, s56, obP k, obF k 0, _, b3.fld (i := 5) rfl, obP k, _, _, _, _, _, _, rp, (refPAll_ok hp).mono ?_⟩
    rintro _ H60 ⟨a61, n62, c63, rfl, o61, s60, f61⟩
    refine ⟨a61, n62, c63, rfl, s56.trans s60, (Rnd.refNew_ok H60 s.p.r a57 a61 n58 c59 n62 c63).mono ?_⟩
    rintro _ H65 ⟨rfl, hH⟩
    rw [hH]
    have b60 := (b3.sub s56).sub s60
    have w76 := (b60.writes (cellsV (s.fix v).1 1 ⟨a57, n58, c59, a61, n62, c63, none, 0, 0⟩ x) rfl).part (A := (cellsV s 1 r x).take 12) (l2 := [.slice a57 n58 c59, .slice a61 n62 c63, .slice none 0 0, vI (maxI s.p.r 0)]) (B := (cellsV { s with fixed := true, value := v } 1 r x).drop 16) (old := [.slice r.a r.an r.ac, .slice r.w r.wn r.wc, .slice r.g r.gn r.gc, vI s.tries]) b60.reads rfl
    have b76 : Bx (H60.upd k (.cells (cellsV (s.fix v).1 1 ⟨a57, n58, c59, a61, n62, c63, none, 0, 0⟩ x).toArray tA (0, 0))) k tA (cellsV (s.fix v).1 1 ⟨a57, n58, c59, a61, n62, c63, none, 0, 0⟩ x) := Bx.new _ _ _ _
    have r1 := ((o57.rd (E := mE) (sz := 13) (by omega) Rnd.mLen).mono s60).frame (ob := at0 k) (H' := H60.upd k (.cells (cellsV (s.fix v).1 1 ⟨a57, n58, c59, a61, n62, c63, none, 0, 0⟩ x).toArray tA (0, 0))) (fun q o hq hn => by rw [Vx.upd_ne _ _ (hn _ rfl)]; exact hq) (fun a z ha hz => by cases hz; exact f57.ne b3 a ha)
    have r2 := (o61.rd (E := iE) (sz := 1) (by omega) Rnd.iLen).frame (ob := at0 k) (H' := H60.upd k (.cells (cellsV (s.fix v).1 1 ⟨a57, n58, c59, a61, n62, c63, none, 0, 0⟩ x).toArray tA (0, 0))) (fun q o hq hn => by rw [Vx.upd_ne _ _ (hn _ rfl)]; exact hq) (fun a z ha hz => by cases hz; exact f61.ne (b3.sub s56) a ha)
    have s76 := ((s3.trans s56).trans s60).wr (o := .cells (cellsV (s.fix v).1 1 ⟨a57, n58, c59, a61, n62, c63, none, 0, 0⟩ x).toArray tA (0, 0)) hk0
    refine ⟨_, _, _, _, _, _, _, _, _, _, rfl, obP k, _, w76, _, _, _, _, _, _, _, _, _, _, _, _, _, _, _, _, _, _, _, _, _, _, _, _, _, _, _, _, _, _, _, _, _, _, _, _, _, b76.reads, ?_⟩
    have hst : stt (s.fix v).1 = 1 := by unfold stt; rw [fix_over, ho]; rfl
    have hx := hsl.mono s76
    refine ⟨_, a57, n58, c59, rfl, ⟨⟨hp, rfl, fun m hm => (by cases hm), List.Pairwise.nil, fun m hm => (by cases hm), fun m hm => (hS m hm).mono s76⟩, fun _ => hk, ⟨a57, n58, c59, a61, n62, c63, none, 0, 0⟩, x, by rw [hst], ⟨r1, r2, RdL.nil _ _ _, Nat.le_refl 0⟩, ⟨hx.h, hx.a, hx.s⟩⟩, r1, s76⟩
theorem raFix_ok {H : PHeap} {p : Plan} {b : Int} {nm : ByteArray} {live : Bool} {v : Val} (hp : p.ok = true) :
    Triple Try.prog 29 #[p.v, vI b, .string nm, v.v, .bool live] H (RBegan H ((init0 p b nm false live (IntKind.i64.wrap (IntKind.i64.wrap (2 * b) + 1))).fix v)) := by
  refine raFix.vc p.n p.t p.l p.w p.s p.r b nm v.pr v.at_ v.ep v.sz live H _ ((refRight_ok p).use ⟨_, rfl, fun e => (by rw [hp] at e; cases e), fun _ => ?_⟩)
  refine (raFixM_ok (s := init0 p b nm false live (IntKind.i64.wrap (IntKind.i64.wrap (2 * b) + 1))) (st := 0) (r := r0) (x := x0) (v := v) hp rfl rfl (fun m hm => by cases hm) ⟨RdL.nil _ _ _, RdL.nil _ _ _, RdL.nil _ _ _⟩).mono ?_
  rintro _ H' ⟨u, a, n, c, rfl, hR, hrd, hs⟩
  obtain ⟨r, x, hu, _⟩ := hR.row
  refine ⟨_, _, _, _, _, _, _, _, _, _, _, _, _, _, _, _, _, _, _, _, _, _, _, _, _, _, _, _, _, _, _, _, _, _, _, _, _, a, n, c, by rw [hu], ?_⟩
  rw [← hu]
  exact ⟨u, a, n, c, rfl, hR, hrd, hs⟩
end Go.Agr
