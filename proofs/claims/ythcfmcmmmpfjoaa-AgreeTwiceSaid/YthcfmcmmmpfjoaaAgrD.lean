/- The contracts of an agreement's object: how it begins, and how it judges what was asked. -/
import Derived.Test.YthcfmcmmmpfjoaaAgrC
namespace Go.Agr
open Go.Vx Go.Vc Go.Proofs Go.Pln Go.Stl
open Go.Rnd (takesG insG froms againG RdS Both OkM AscG)

def init0 (p : Plan) (b : Int) (nm : ByteArray) (force live : Bool) (mark : Int) : St := ⟨p, b, nm, force, live, false, mark, [], [], [], 0, false, false, val0, [], [], []⟩
def x0 : AV := ⟨none, .nilFunc, none, 0, 0, none, 0, 0, none, 0, 0⟩
theorem begin_ok {H : PHeap} {p : Plan} {b : Int} {nm : ByteArray} (hp : p.ok = true) : Triple Try.prog 20 #[p.v, vI b, .string nm] H fun v H' => ∃ k, v = .pointer (at0 k) ∧ H k = none ∧ Sub H (rest H' [k]) ∧ Bx H' k tAg (cellsA (init0 p b nm false false 0) x0) := by
  refine agBegin.vc p.n p.t p.l p.w p.s p.r b nm H _ ⟨H, Sub.refl _, (right_ok p).use ⟨_, rfl, Sub.refl _, fun k hk => ?_⟩⟩
  rw [hp]
  refine ⟨k, rfl, hk, ?_, Bx.new _ _ _ _⟩
  rw [rest_upd]
  exact rest_le (Sub.refl _) (by simpa using hk)
/-- A plan's agreement begins, and asks. -/
abbrev Began (H : PHeap) (r : St × List Msg) (v : Value) (H' : PHeap) : Prop := ∃ k b n c F, v = .tuple #[.pointer (at0 k), .slice b n c] ∧ H k = none ∧ Sub H F ∧ RdL F mE 13 b n r.2 ∧ AgS F H' k r.1
theorem settle_ok {H : PHeap} {p : Plan} {b : Int} {nm : ByteArray} {force : Bool} (hp : p.ok = true) :
    Triple Try.prog 9 #[p.v, vI b, .string nm, .bool force] H (Began H ((init0 p b nm force false (IntKind.i64.wrap (2 * b))).ask mask)) := by
  refine agSettle.vc p.n p.t p.l p.w p.s p.r b nm force H _ ((begin_ok hp).mono ?_)
  rintro _ H1 ⟨k, rfl, hk, hs1, hb⟩
  refine ⟨at0 k, rfl, obP k, obP k, _, hb.fld (i := 10) rfl, fun e => (by cases e), fun _ => ⟨obP k, obP k, _, hb.put (i := 8) (x := .bool force) (by show 8 < 23; decide), obP k, obP k, ?_⟩⟩
  have b2 : Bx (H1.upd k (.cells (cellsA (init0 p b nm force false 0) x0).toArray tAg (0, 0))) k tAg (cellsA (init0 p b nm force false 0) x0) := Bx.new _ _ _ _
  have r2 : rest (H1.upd k (.cells (cellsA (init0 p b nm force false 0) x0).toArray tAg (0, 0))) [k] = rest H1 [k] := rest_upd _ _ _
  refine ⟨_, b2.put (i := 13) (x := jv false) (by show 13 < 23; decide), obP k, obP k, ?_⟩
  have b3 : Bx ((H1.upd k (.cells (cellsA (init0 p b nm force false 0) x0).toArray tAg (0, 0))).upd k (.cells (cellsA (init0 p b nm force false 0) { x0 with j := jv false }).toArray tAg (0, 0))) k tAg (cellsA (init0 p b nm force false 0) { x0 with j := jv false }) := Bx.new _ _ _ _
  have r3 : rest ((H1.upd k (.cells (cellsA (init0 p b nm force false 0) x0).toArray tAg (0, 0))).upd k (.cells (cellsA (init0 p b nm force false 0) { x0 with j := jv false }).toArray tAg (0, 0))) [k] = rest H1 [k] := by rw [rest_upd, r2]
  refine ⟨_, b3.put (i := 11) (x := vI (IntKind.i64.wrap (2 * b))) (by show 11 < 23; decide), ?_⟩
  have b4 : Bx (((H1.upd k (.cells (cellsA (init0 p b nm force false 0) x0).toArray tAg (0, 0))).upd k (.cells (cellsA (init0 p b nm force false 0) { x0 with j := jv false }).toArray tAg (0, 0))).upd k (.cells (cellsA (init0 p b nm force false (IntKind.i64.wrap (2 * b))) { x0 with j := jv false }).toArray tAg (0, 0))) k tAg (cellsA (init0 p b nm force false (IntKind.i64.wrap (2 * b))) { x0 with j := jv false }) := Bx.new _ _ _ _
  have r4 : rest (((H1.upd k (.cells (cellsA (init0 p b nm force false 0) x0).toArray tAg (0, 0))).upd k (.cells (cellsA (init0 p b nm force false 0) { x0 with j := jv false }).toArray tAg (0, 0))).upd k (.cells (cellsA (init0 p b nm force false (IntKind.i64.wrap (2 * b))) { x0 with j := jv false }).toArray tAg (0, 0))) [k] = rest H1 [k] := by rw [rest_upd, r3]
  refine (agAll_ok (s := init0 p b nm force false (IntKind.i64.wrap (2 * b))) (m := mask) hp b4).mono ?_
  rintro _ H' ⟨a, n, c, F1, kr, rfl, hrd, hF1, hR, hb'⟩
  rw [r4] at hF1
  exact ⟨a, n, c, rfl, k, a, n, c, F1, rfl, hk, hs1.trans hF1, hrd, kr, hR.sub.none (rest_none (by simp)), ⟨hp, rfl, fun m hm => (by cases hm), List.Pairwise.nil, fun m hm => (by cases hm), fun m hm => (by cases hm)⟩, F1, [], _, rfl, rfl, Sub.refl _, hR, Rnd.Both.nil, hb', ⟨RdL.nil _ _ _, RdL.nil _ _ _, RdL.nil _ _ _⟩⟩
theorem fix_ok {H : PHeap} {p : Plan} {b : Int} {nm : ByteArray} {live : Bool} {v : Val} (hp : p.ok = true) :
    Triple Try.prog 28 #[p.v, vI b, .string nm, v.v, .bool live] H (Began H ((init0 p b nm false live (IntKind.i64.wrap (IntKind.i64.wrap (2 * b) + 1))).fix v)) := by
  refine agFix.vc p.n p.t p.l p.w p.s p.r b nm v.pr v.at_ v.ep v.sz live H _ ((begin_ok hp).mono ?_)
  rintro _ H1 ⟨k, rfl, hk, hs1, hb⟩
  refine ⟨at0 k, rfl, obP k, obP k, _, hb.fld (i := 10) rfl, fun e => (by cases e), fun _ => ⟨obP k, obP k, _, hb.put (i := 9) (x := .bool live) (by show 9 < 23; decide), obP k, obP k, ?_⟩⟩
  have b2 : Bx (H1.upd k (.cells (cellsA (init0 p b nm false live 0) x0).toArray tAg (0, 0))) k tAg (cellsA (init0 p b nm false live 0) x0) := Bx.new _ _ _ _
  have r2 : rest (H1.upd k (.cells (cellsA (init0 p b nm false live 0) x0).toArray tAg (0, 0))) [k] = rest H1 [k] := rest_upd _ _ _
  refine ⟨_, b2.put (i := 11) (x := vI (IntKind.i64.wrap (IntKind.i64.wrap (2 * b) + 1))) (by show 11 < 23; decide), ?_⟩
  have b4 : Bx ((H1.upd k (.cells (cellsA (init0 p b nm false live 0) x0).toArray tAg (0, 0))).upd k (.cells (cellsA (init0 p b nm false live (IntKind.i64.wrap (IntKind.i64.wrap (2 * b) + 1))) x0).toArray tAg (0, 0))) k tAg (cellsA (init0 p b nm false live (IntKind.i64.wrap (IntKind.i64.wrap (2 * b) + 1))) x0) := Bx.new _ _ _ _
  have r4 : rest ((H1.upd k (.cells (cellsA (init0 p b nm false live 0) x0).toArray tAg (0, 0))).upd k (.cells (cellsA (init0 p b nm false live (IntKind.i64.wrap (IntKind.i64.wrap (2 * b) + 1))) x0).toArray tAg (0, 0))) [k] = rest H1 [k] := by rw [rest_upd, r2]
  refine (fixM_ok (F := H) (F2 := H) (s := init0 p b nm false live (IntKind.i64.wrap (IntKind.i64.wrap (2 * b) + 1))) (v := v) hk hp (fun m hm => by cases hm) (Sub.refl _) (by rw [r4]; exact hs1) b4 ⟨RdL.nil _ _ _, RdL.nil _ _ _, RdL.nil _ _ _⟩).mono ?_
  rintro _ H' ⟨a, n, c, kr, F1, rfl, hF1, hrd, hA, _⟩
  exact ⟨a, n, c, rfl, k, a, n, c, F1, rfl, hk, hF1, hrd, kr, hA⟩

/-! ### What was asked is judged -/
theorem all_eq {wait : List Int} {got : List (Int × Msg)} {G : List Msg} (h : Both got G) : Rnd.allB wait got = allG wait G := by
  unfold Rnd.allB allG
  congr 1; funext i; exact h.some i
theorem got_len {got : List (Int × Msg)} {G : List Msg} (h : Both got G) : got.length = G.length := by
  have := h.keys.length_eq
  simpa using this
theorem asked_ok {F H : PHeap} {k kr : Nat} {s : St} (h : AgK F H k kr s) (hf : s.fixed = false) : Triple Try.prog 21 #[.pointer (at0 k)] H (Judged F k kr s s.judge0) := by
  obtain ⟨h1, h2, F1, got, x, h3, h4, h5, h6, h7, h8, h9⟩ := h
  have hlen := h2.len
  refine agAsked.vc (at0 k) H _ ⟨obP k, obP k, x.r, h8.fld rfl, ?_⟩
  rw [h3]
  refine (callR (Rnd.got_own h6 (by rw [got_len h7]; omega)) h8).mono ?_
  rintro _ H4 ⟨G4, ⟨b5, n6, c7, K, rfl, hK, hrd, hsub, hoffb⟩, hG4, hb4⟩
  have hKG : (K.map fun i => (mlook got i).getD Rnd.z0) = s.G := h7.got hK
  rw [hKG] at hrd
  have s4 : Sub (rest H [k]) (rest H4 [k]) := hsub.trans hG4
  have rp : Reads H4 (fldA (at0 k) 0) [vI s.p.n, vI s.p.t, vI s.p.l, vI s.p.w, vI s.p.s, vI s.p.r] := hb4.readsAt 0 fun j v hv => by
    match j, hv with
    | 0, hv => exact hv
    | 1, hv => exact hv
    | 2, hv => exact hv
    | 3, hv => exact hv
    | 4, hv => exact hv
    | 5, hv => exact hv
    | j + 6, hv => simp at hv
  have hl6 := hrd.len
  refine ⟨b5, n6, c7, rfl, obP k, obP k, _, _, _, _, _, _, rp, (callR (sSettle_ok (p := s.p) (hrd.mono hG4) (fun x hx => (h2.okG x hx).who.mono (h5.trans (h6.sub.trans s4))) (by omega)) hb4).mono ?_⟩
  rintro _ H15 ⟨G15, ⟨b, m, q, rfl, ho, hs15, ho15⟩, hG15, hb15⟩
  have s15 : Sub (rest H4 [k]) (rest H15 [k]) := hs15.trans hG15
  have s0 := s4.trans s15
  have hR15 := RdS_grow h6 s0
  have hF2 : Sub F1 (grow F1 (rest H [k]) (rest H15 [k])) := grow_le h6.sub
  have rGot : RdL (grow F1 (rest H [k]) (rest H15 [k])) mE 13 b5 n6 s.G := rd_grow (hrd.mono (hG4.trans s15)) hoffb
  have rHold : RdL (grow F1 (rest H [k]) (rest H15 [k])) iE 1 b m (verd s.p s.G).holders := rd_grow ((ho.rd (E := iE) (sz := 1) (by omega) Rnd.iLen).mono hG15) (ho15.sub s4)
  have hsl := h9.mono hF2
  have hj : s.judge0 = if (verd s.p s.G).enough then
      if (verd s.p s.G).clean && !s.force then (St.end_ { s with said := s.G, value := (verd s.p s.G).value, holders := (verd s.p s.G).holders } true, [])
      else St.fix { s with said := s.G } (verd s.p s.G).value
    else if allG s.wait s.G then (s.end_ false, []) else (s, []) := rfl
  generalize grow F1 (rest H [k]) (rest H15 [k]) = F2 at hR15 hF2 rGot rHold hsl
  generalize verd s.p s.G = w at hj rHold
  have hFF := h5.trans hF2
  have main : w.enough = true → Ob (at0 k ≠ none) ∧ Ob (at0 k ≠ none) ∧ Ob (fldA (at0 k) 14 ≠ none) ∧ ∃ H35, Writes H15 H35 (fldA (fldA (at0 k) 14) 8) [.slice b5 n6 c7] ∧ Bx H35 k tAg (cellsA { s with said := s.G } { x with s := b5, sn := n6, sc := c7 }) ∧ rest H35 [k] = rest H15 [k] := fun _ =>
    ⟨obP k, obP k, obF k 14, _, hb15.put (i := 22) (x := .slice b5 n6 c7) (by show 22 < 23; decide), Bx.new _ _ _ _, rest_upd _ _ _⟩
  have sl22 : SlA F2 { s with said := s.G } { x with s := b5, sn := n6, sc := c7 } := ⟨hsl.h, hsl.a, rGot⟩
  refine ⟨w.enough, w.clean, w.value.pr, w.value.at_, w.value.ep, w.value.sz, w.mark, b, m, q, rfl, fun e1 => ?_, fun e1 => ?_⟩
  · have e1' : w.enough = false := by simpa using e1
    rw [e1'] at hj
    simp only [Bool.false_eq_true, if_false] at hj
    refine ⟨obP k, obP k, x.r, hb15.fld rfl, ?_⟩
    rw [h3]
    refine (callR (Rnd.all_ok hR15) hb15).mono ?_
    rintro _ H28 ⟨G28, ⟨rfl, hs28⟩, hG28, hb28⟩
    have hA : AgK F H28 k kr s := ⟨h1, h2, F2, got, x, h3, h4, hFF, hR15.mono (hs28.trans hG28), h7, hb28, hsl⟩
    rw [all_eq h7]
    refine ⟨_, rfl, fun e2 => ?_, fun e2 => ⟨fun _ => ?_, fun e3 => ?_⟩⟩
    · refine (end_ok hA).mono ?_
      rintro _ H' ⟨rfl, hA'⟩
      rw [hj, if_pos e2]
      exact ⟨_, _, _, rfl, none, 0, 0, kr, rfl, RdL.nil _ _ _, hA', Moved.stay hA' rfl⟩
    · rw [hj, if_neg (by rw [e2]; decide)]
      exact ⟨none, 0, 0, kr, rfl, RdL.nil _ _ _, hA, Moved.stay hA rfl⟩
    · rw [e1'] at e3; cases e3
  · have e1' : w.enough = true := by simpa using e1
    refine ⟨fun e2 => (by rw [e1'] at e2; cases e2), fun _ => ?_⟩
    rw [e1', if_pos rfl] at hj
    obtain ⟨o1, o2, o3, H35, w35, hb35, r35⟩ := main e1'
    have fixes : (w.clean && !s.force) = false → Triple Try.prog 42 #[.pointer (at0 k), w.value.v] H35 fun v H' => ∃ a k1 k2, v = Value.slice a k1 k2 ∧ Judged F k kr s s.judge0 (.slice a k1 k2) H' := fun hc => by
      rw [hj, hc]
      refine (fixM_ok (F := F) (F2 := F2) (s := { s with said := s.G }) (v := w.value) h1 h2.pok h2.okG hFF (by rw [r35]; exact hR15.sub) hb35 sl22).mono ?_
      rintro _ H' ⟨a, n, c, kr', F3, rfl, hF3, hrd', hA3, hA, hnk, hsub'⟩
      refine ⟨a, n, c, rfl, a, n, c, kr', rfl, hrd'.mono hA3.sub, hA, ?_, ?_⟩
      · obtain ⟨l, hl⟩ := RdS_bx hR15
        rw [r35] at hsub'
        exact ⟨l, (hl.sub hsub').sub (rest_sub _ _)⟩
      · obtain ⟨l, hl⟩ := RdS_bx hR15
        have hne : kr' ≠ kr := fun e => by
          rw [e, r35] at hnk
          unfold Bx at hl
          rw [hnk] at hl; cases hl
        rw [decide_eq_false hne, hf]; rfl
    refine ⟨o1, o2, o3, H35, w35, fun e2 => ⟨obP k, obP k, s.force, hb35.fld (i := 8) rfl, fun e3 => ?_, fun e3 => ?_⟩, fun e2 => ?_⟩
    · rw [e2, e3] at hj
      simp only [Bool.and_self, if_true] at hj
      have w38 := (hb35.writes (cellsA { s with said := s.G, value := w.value } { x with s := b5, sn := n6, sc := c7 }) rfl).part (A := (cellsA s x).take 16) (l2 := w.value.c) (B := [.slice x.h x.hn x.hc, .slice x.a x.an x.ac, .slice b5 n6 c7]) (old := s.value.c) hb35.reads rfl
      have b38 : Bx (H35.upd k (.cells (cellsA { s with said := s.G, value := w.value } { x with s := b5, sn := n6, sc := c7 }).toArray tAg (0, 0))) k tAg (cellsA { s with said := s.G, value := w.value } { x with s := b5, sn := n6, sc := c7 }) := Bx.new _ _ _ _
      have r38 : rest (H35.upd k (.cells (cellsA { s with said := s.G, value := w.value } { x with s := b5, sn := n6, sc := c7 }).toArray tAg (0, 0))) [k] = rest H15 [k] := by rw [rest_upd, r35]
      refine ⟨rest H15 [k], by rw [← r35]; exact rest_sub _ _, obP k, obP k, obF k 14, H35.upd k (.cells (cellsA { s with said := s.G, value := w.value } { x with s := b5, sn := n6, sc := c7 }).toArray tAg (0, 0)), w38, by rw [← r38]; exact rest_sub _ _, obP k, obP k, obF k 14, ?_⟩
      generalize H35.upd k (.cells (cellsA { s with said := s.G, value := w.value } { x with s := b5, sn := n6, sc := c7 }).toArray tAg (0, 0)) = H38 at b38 r38 ⊢
      have w39 := b38.put (i := 20) (x := .slice b m q) (by show 20 < 23; decide)
      refine ⟨_, w39, ?_⟩
      have hA : AgK F (H38.upd k (.cells (cellsA { s with said := s.G, value := w.value, holders := w.holders } { x with s := b5, sn := n6, sc := c7, h := b, hn := m, hc := q }).toArray tAg (0, 0))) k kr { s with said := s.G, value := w.value, holders := w.holders } :=
        ⟨h1, ⟨h2.pok, h2.wt, h2.gin, h2.asc, h2.okG, h2.okG⟩, F2, got, { x with s := b5, sn := n6, sc := c7, h := b, hn := m, hc := q }, h3, h4, hFF, by rw [rest_upd, r38]; exact hR15, h7, Bx.new _ _ _ _, ⟨rHold, hsl.a, rGot⟩⟩
      refine (end_ok hA).mono ?_
      rintro _ H' ⟨rfl, hA'⟩
      rw [hj]
      exact ⟨none, 0, 0, rfl, none, 0, 0, kr, rfl, RdL.nil _ _ _, hA', Moved.stay hA' rfl⟩
    · exact fixes (by rw [e2, e3]; rfl)
    · exact fixes (by rw [show w.clean = false by simpa using e2]; rfl)
end Go.Agr
