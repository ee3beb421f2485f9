/- What the law RoundPlays tells: true. -/
import Derived.Test.YtinodncpmbamoaaRndE
import Derived.Test.YtinodncpmbamoaaRndAl
namespace Go.Rnd
open Go.Vx Go.Vc Go.Proofs

theorem rest_mono {H H' : PHeap} {ks : List Nat} (h : Sub H H') : Sub (rest H ks) (rest H' ks) := ⟨fun q o hq => by
  unfold rest at hq ⊢
  split at hq
  · cases hq
  · rename_i hn
    rw [if_neg hn]; exact h.le _ _ hq⟩
theorem RdS.stay {F G H F' H' G' : PHeap} {k : Nat} {asks : List Msg} {wait : List Int} {got : List (Int × Msg)} {tries : Int} (h : RdS F G k asks wait got tries) (hG : Sub G H) (st : Stay F H F' H') (hF' : Sub F' G') (hk : ∀ q o, G q = some o → H' q = some o → G' q = some o) : RdS F' G' k asks wait got tries := by
  obtain ⟨oa, n, c, ob, m, d, gb, h1, h2, h3, h4, h5, h6, h7, h8⟩ := h.row
  have kp : ∀ q o, G q = some o → F q = none → G' q = some o := fun q o hq hf => hk q o hq (st.keep q o (hG.le _ _ hq) hf).1
  obtain ⟨es, cl, ho, _, _⟩ := h4.out
  exact ⟨hF', (st.keep k _ (hG.le _ _ h1) h.off).2, oa, n, c, ob, m, d, gb, kp _ _ h1 h.off, h2.mono st.fsub, h3.mono st.fsub, h4.mono fun o ho => kp _ _ ho h5, (st.keep gb _ (hG.le _ _ ho) h5).2, h6, h7, h8⟩
/-- The round, and the reference's, that is a variable in the block kv. -/
structure Sys (H0 F H : PHeap) (k kv : Nat) (asks : List Msg) (wait : List Int) (got : List (Int × Msg)) (tries : Int) (r : RV) (G : List Msg) : Prop where
  st : Sub H0 F
  rs : RdS F (rest H [kv]) k asks wait got tries
  bv : Bx H kv 31 [.slice r.a r.an r.ac, .slice r.w r.wn r.wc, .slice r.g r.gn r.gc, .int .i64 tries]
  offv : F kv = none
  rr : RdR F r asks wait G
  bo : Both got G
theorem Sys.sub {H0 F H : PHeap} {k kv : Nat} {asks : List Msg} {wait : List Int} {got : List (Int × Msg)} {tries : Int} {r : RV} {G : List Msg} (h : Sys H0 F H k kv asks wait got tries r G) : Sub F H := h.rs.sub.trans (rest_sub _ _)
theorem Sys.mono {H0 F H H' : PHeap} {k kv : Nat} {asks : List Msg} {wait : List Int} {got : List (Int × Msg)} {tries : Int} {r : RV} {G : List Msg} (h : Sys H0 F H k kv asks wait got tries r G) (hs : Sub H H') : Sys H0 F H' k kv asks wait got tries r G :=
  ⟨h.st, h.rs.mono (rest_mono hs), h.bv.sub hs, h.offv, h.rr, h.bo⟩
structure MsgR (H : PHeap) (m : Msg) : Prop where
  who : RdL H iE 1 m.2.2.2.2.2.2.2.2.2.2.1.oa m.2.2.2.2.2.2.2.2.2.2.1.n m.2.2.2.2.2.2.2.2.2.2.1.l
  names : RdL H strE 1 m.2.2.2.2.2.2.2.2.2.2.2.1.oa m.2.2.2.2.2.2.2.2.2.2.2.1.n m.2.2.2.2.2.2.2.2.2.2.2.1.l
  data : RdL H bE 1 m.2.2.2.2.2.2.2.2.2.2.2.2.oa m.2.2.2.2.2.2.2.2.2.2.2.2.n m.2.2.2.2.2.2.2.2.2.2.2.2.l
theorem farL_ok {H : PHeap} {oa : Option Addr} {n c : Nat} {l : List Msg} (hl : RdL H mE 13 oa n l) (hm : ∀ m ∈ l, MsgR H m) (hn : n ≤ maxLen) :
    Triple Try.prog 4 #[.slice oa n c] H fun v H' => ∃ b, v = .bool b ∧ H' = H ∧ (b = false → n ≤ 40 ∧ ∀ m ∈ l, OkM H m) := by
  have hll := hl.len
  have hmx : maxLen ≤ 9223372036854775807 := by decide
  refine farL.vc oa n c H _ ⟨fun t H' => match t with | [.int _ i] => 0 ≤ i ∧ i ≤ n ∧ H' = H ∧ ∀ m ∈ l.take i.toNat, OkM H m | _ => False, fun t _ => match t with | [.int _ i] => (n - i).toNat | _ => 0, ⟨by omega, by omega, rfl, by simp⟩, ?_⟩
  rintro i H1 ⟨i0, i1, hH, hall⟩
  obtain rfl := hH.symm
  obtain ⟨i, rfl⟩ : ∃ j : Nat, i = j := ⟨i.toNat, by omega⟩
  rw [Int.toNat_natCast] at hall
  refine ⟨fun hi => ?_, fun hi => ?_⟩
  · have hi' : i < n := by simpa using hi
    obtain ⟨x, hx, hxr⟩ := hl.ex (i := (i : Int)) (by omega) (by omega)
    rw [Int.toNat_natCast] at hx
    have hx0 := hm x (List.mem_of_getElem? hx)
    have hfar := far_ok hx0.names
    have key : ∀ b : Bool, (b = false → x.2.2.2.2.2.2.2.2.2.2.1.n ≤ 100000 ∧ x.2.2.2.2.2.2.2.2.2.2.2.1.n ≤ 100000 ∧ x.2.2.2.2.2.2.2.2.2.2.2.2.n ≤ 100000) → b = false → ∀ m ∈ l.take (i + 1), OkM H m := fun b hb e m hm' => by
      rw [List.take_add_one, hx] at hm'
      rcases List.mem_append.1 hm' with h | h
      · exact hall m h
      · simp at h; subst h; exact ⟨hx0.who, hx0.names, hx0.data, hb e⟩
    obtain ⟨y1, y2, y3, y4, y5, y6, y7, y8, y9, y10, ⟨ya, yb, yc, yl⟩, ⟨za, zb, zc, zl⟩, ⟨wa, wb, wc, wl⟩⟩ := x
    refine ⟨hl.ob (by omega) (by omega), y1, y2, y3, y4, y5, y6, y7, y8, y9, y10, ya, yb, yc, za, zb, zc, wa, wb, wc, hxr, hfar.mono ?_⟩
    rintro _ H28 ⟨b, rfl, hH, hb⟩
    obtain rfl := hH.symm
    refine ⟨b, rfl, fun e => ⟨true, rfl, rfl, fun e => by cases e⟩, fun e => ?_⟩
    rw [wrap64 (by omega) (by omega)]
    exact ⟨⟨by omega, by omega, rfl, by rw [show ((i : Int) + 1).toNat = i + 1 by omega]; exact key b hb e⟩, ⟨by simp only; omega⟩⟩
  · have hi' : ¬ i < n := by simpa using hi
    rw [List.take_of_length_le (by omega)] at hall
    exact ⟨_, rfl, rfl, fun e => ⟨by simp at e; omega, hall⟩⟩
theorem again_eq {asks : List Msg} {got : List (Int × Msg)} {G : List Msg} (h : Both got G) : again asks got = againG asks G := List.filter_congr fun x _ => by rw [h.some]
theorem takes_eq {wait : List Int} {got : List (Int × Msg)} {G : List Msg} (h : Both got G) (m : Msg) : takesB wait got m = takesG wait G m := by
  unfold takesB takesG
  have := h.some (from_ m)
  congr 1
  cases hx : mlook got (from_ m) with
  | none => rw [hx] at this; rw [← this]; rfl
  | some y => rw [hx] at this; rw [← this]; rfl
theorem all_eq {wait : List Int} {got : List (Int × Msg)} {G : List Msg} (h : Both got G) : allB wait got = wait.all fun i => decide (i ∈ froms G) := by
  unfold allB
  congr 1
  exact funext fun i => h.some i
theorem takes_new {wait : List Int} {G : List Msg} {m : Msg} (h : takesG wait G m = true) : from_ m ∉ froms G := by
  unfold takesG at h
  simp only [Bool.and_eq_true, Bool.not_eq_true', decide_eq_false_iff_not] at h
  exact h.2
theorem plays_ok {H : PHeap} {oa ob ow : Option Addr} {n c m d nw cw : Nat} {asks l : List Msg} {wait : List Int} {tries : Int} (ha : RdL H mE 13 oa n asks) (hl : RdL H mE 13 ob m l) (hw : RdL H iE 1 ow nw wait)
    (ham : ∀ x ∈ asks, MsgR H x) (hlm : ∀ x ∈ l, MsgR H x) (hn : n ≤ maxLen) (hm : m ≤ maxLen) :
    Triple Try.prog 3 #[.slice oa n c, .slice ob m d, .agg #[.int .i64 tries, .slice ow nw cw]] H fun v H' => v = .bool true ∧ Sub H H' := by
  have alive : ∀ {H1 : PHeap}, Sub H H1 → Triple Try.prog 5 #[] H1 fun v H' => ∃ b, v = Value.bool b ∧ Value.bool b = Value.bool true ∧ Sub H H' := fun hs => (alive_ok _).mono fun v H' ⟨h1, h2⟩ => ⟨true, h1, rfl, hs.trans h2⟩
  have hal := ha.len
  have hll := hl.len
  refine lawPlays.vc oa n c ob m d tries ow nw cw H _ ((farL_ok ha ham hn).mono ?_)
  rintro _ H12 ⟨b1, rfl, hHH, hb1⟩
  obtain rfl := hHH.symm
  refine ⟨b1, rfl, fun e1 => (farL_ok hl hlm hm).mono ?_, fun _ => alive (Sub.refl _)⟩
  rintro _ H15 ⟨b2, rfl, hHH, hb2⟩
  obtain rfl := hHH.symm
  refine ⟨b2, rfl, fun _ => alive (Sub.refl _), fun e2 => ?_⟩
  obtain ⟨hn40, hoka⟩ := hb1 e1
  have e2' : b2 = false ∧ nw ≤ 40 := by
    cases b2 with
    | true => simp at e2
    | false => simp at e2; exact ⟨rfl, by omega⟩
  obtain ⟨hm40, hokl⟩ := hb2 e2'.1
  have hw40 := e2'.2
  refine ⟨H, Sub.refl _, (new_ok (tries := tries) ha hw (by omega) (by omega)).mono ?_⟩
  rintro _ H22 ⟨k, F0, rfl, hR0, sF0⟩
  have s22 := sF0.trans hR0.sub
  refine ⟨at0 k, rfl, s22, (refNew_ok H22 tries oa ow n c nw cw).mono ?_⟩
  rintro _ H25 ⟨rfl, hHH⟩
  obtain rfl := hHH.symm
  refine ⟨oa, n, c, ow, nw, cw, none, 0, 0, maxI tries 0, rfl, s22, fun kv hkv => ?_⟩
  have hsv := Sub.upd (.cells #[Value.slice none 0 0, .slice none 0 0, .slice none 0 0, .int .i64 0] 31 (0, 0)) hkv
  have hbv := Bx.new H22 kv 31 [Value.slice none 0 0, .slice none 0 0, .slice none 0 0, .int .i64 0]
  refine ⟨s22.trans hsv, _, hbv.writes [.slice oa n c, .slice ow nw cw, .slice none 0 0, .int .i64 (maxI tries 0)] rfl, ?_⟩
  have hF0v : F0 kv = none := hR0.sub.none hkv
  have hS0 : Sys H F0 ((H22.upd kv (.cells #[Value.slice none 0 0, .slice none 0 0, .slice none 0 0, .int .i64 0] 31 (0, 0))).upd kv (.cells [Value.slice oa n c, .slice ow nw cw, .slice none 0 0, .int .i64 (maxI tries 0)].toArray 31 (0, 0))) k kv asks wait [] (maxI tries 0) ⟨oa, n, c, ow, nw, cw, none, 0, 0⟩ [] := by
    refine ⟨sF0, hR0.mono ⟨fun q o hq => ?_⟩, Bx.new _ _ _ _, hF0v, ⟨ha.mono sF0, hw.mono sF0, RdL.nil _ _ _, Nat.le_refl _⟩, Both.nil⟩
    have hne : q ≠ kv := fun e => by rw [e, hkv] at hq; cases hq
    rw [rest_at (by simpa using hne), Vx.upd_ne _ _ hne, Vx.upd_ne _ _ hne]; exact hq
  generalize (H22.upd kv (.cells #[Value.slice none 0 0, .slice none 0 0, .slice none 0 0, .int .i64 0] 31 (0, 0))).upd kv (.cells [Value.slice oa n c, .slice ow nw cw, .slice none 0 0, .int .i64 (maxI tries 0)].toArray 31 (0, 0)) = H37 at hS0 ⊢
  refine ⟨fun t H' => match t with | [.int _ i] => 0 ≤ i ∧ i ≤ m ∧ ∃ F got tr r G, Sys H F H' k kv asks wait got tr r G ∧ G.length ≤ i.toNat ∧ ∀ x ∈ G, x ∈ l | _ => False, fun t _ => match t with | [.int _ i] => (m - i).toNat | _ => 0, ⟨by omega, by omega, F0, [], _, _, [], hS0, by simp, by simp⟩, ?_⟩
  rintro i H41 ⟨i0, i1, F, got, tr, r, G, hS, hGl, hGm⟩
  obtain ⟨i, rfl⟩ : ∃ j : Nat, i = j := ⟨i.toNat, by omega⟩
  rw [Int.toNat_natCast] at hGl
  have hH41 := hS.st.trans hS.sub
  have hgn := hS.rr.got.len
  have hwn := hS.rr.wait.len
  have han := hS.rr.asks.len
  have hwl := hw.len
  refine ⟨fun hi => ?_, fun _ => alive hH41⟩
  have hi' : i < m := by simpa using hi
  have hl41 := hl.mono hH41
  obtain ⟨x, hx, hxr⟩ := hl41.ex (i := (i : Int)) (by omega) (by omega)
  rw [Int.toNat_natCast] at hx
  have hxl := List.mem_of_getElem? hx
  have htake : ∀ {G0 : PHeap}, RdS F G0 k asks wait got tr → Triple Try.prog 11 #[.pointer (at0 k), vM x] G0 fun v H' => v = .bool (takesB wait got x) ∧ RdS F H' k asks wait (if takesB wait got x then got ++ [(from_ x, x)] else got) tr := fun h => take_ok h
  have hrtake := refTake_ok (r := r) (tries := tr) (m := x) hS.rr (by omega) (by omega)
  have hob : Ob (ob ≠ none ∧ 0 ≤ (i : Int) ∧ (i : Int) < m) := hl41.ob (by omega) (by omega)
  rw [wrapS (by omega) (by omega)]
  obtain ⟨y1, y2, y3, y4, y5, y6, y7, y8, y9, y10, ⟨ya, yb, yc, yl⟩, ⟨za, zb, zc, zl⟩, ⟨wa, wb, wc, wl⟩⟩ := x
  generalize hxe : ((y1, y2, y3, y4, y5, y6, y7, y8, y9, y10, ⟨ya, yb, yc, yl⟩, ⟨za, zb, zc, zl⟩, ⟨wa, wb, wc, wl⟩) : Msg) = x at *
  refine ⟨hob, y1, y2, y3, y4, y5, y6, y7, y8, y9, y10, ya, yb, yc, za, zb, zc, wa, wb, wc, by rw [← hxe] at hxr; exact hxr, ?_⟩
  apply both (C := fun H' => ∃ F got tr r G, Sys H F H' k kv asks wait got tr r G ∧ G.length ≤ i + 1 ∧ ∀ x ∈ G, x ∈ l)
  · intro key
    refine ⟨fun e => ?_, fun e => ?_⟩
    · -- a tick
      refine ((tick_ok hS.rs).frame (rest_sub _ _)).mono ?_
      rintro v61 H62 ⟨G1, hor, sG1, hkeep⟩
      have hbv62 : Bx H62 kv 31 [.slice r.a r.an r.ac, .slice r.w r.wn r.wc, .slice r.g r.gn r.gc, .int .i64 tr] := (hkeep kv _ hS.bv (rest_none (by simp))).1
      have hG1v : G1 kv = none := (hkeep kv _ hS.bv (rest_none (by simp))).2
      have sG1r : Sub G1 (rest H62 [kv]) := rest_le sG1 fun q hq => by rw [List.mem_singleton] at hq; rw [hq]; exact hG1v
      -- the reference's
      have ref : ∀ {tr' : Int}, RdS F G1 k asks wait got tr' → Triple Try.prog 9 #[r.v tr] H62 fun v H78 => ∃ F', ((tr = 0 ∧ v = .tuple #[r.v tr, .slice none 0 0, .bool true]) ∨ (tr ≠ 0 ∧ ∃ b m c, v = .tuple #[r.v (IntKind.i64.wrap (tr - 1)), .slice b m c, .bool false] ∧ RdL F' mE 13 b m (againG asks G))) ∧ Stay F H62 F' H78 := by
        intro tr' hr1
        refine Triple.ro ((refTick_ok (r := r) hS.rr (by omega) (by omega)).mono ?_) (hr1.sub.trans sG1)
        rintro v F' (⟨h1, h2, rfl⟩ | ⟨h1, h2, h3⟩)
        · exact ⟨.inl ⟨h1, h2⟩, Sub.refl _⟩
        · exact ⟨.inr ⟨h1, h3⟩, h2⟩
      have step : ∀ {tr' : Int} {F' H78 : PHeap}, RdS F G1 k asks wait got tr' → Stay F H62 F' H78 → Sys H F' (H78.upd kv (.cells [Value.slice r.a r.an r.ac, .slice r.w r.wn r.wc, .slice r.g r.gn r.gc, .int .i64 tr'].toArray 31 (0, 0))) k kv asks wait got tr' r G := by
        intro tr' F' H78 hr1 stay
        have hF'v : F' kv = none := stay.none hbv62 hS.offv
        refine ⟨hS.st.trans stay.fsub, hr1.stay sG1 stay (rest_le (stay.sub.wr hF'v) fun q hq => by rw [List.mem_singleton] at hq; rw [hq]; exact hF'v) fun q o hq hq' => ?_, Bx.new _ _ _ _, hF'v, hS.rr.mono stay.fsub, hS.bo⟩
        have hne : q ≠ kv := fun e => by rw [e, hG1v] at hq; cases hq
        rw [rest_at (by simpa using hne), Vx.upd_ne _ _ hne]; exact hq'
      rcases hor with ⟨ht0, rfl, hr1, hs1⟩ | ⟨ht0, hr1, b, mm, cc, rfl, hagain⟩
      · refine ⟨none, 0, 0, true, rfl, r.a, r.an, r.ac, r.w, r.wn, r.wc, r.g, r.gn, r.gc, tr, hbv62.reads, (ref hr1).mono ?_⟩
        rintro _ H78 ⟨F', ⟨h1, rfl⟩ | ⟨h1, _⟩, stay⟩
        · have hb78 := (stay.hsub (hr1.sub.trans sG1)).le _ _ hbv62
          refine ⟨r.a, r.an, r.ac, r.w, r.wn, r.wc, r.g, r.gn, r.gc, tr, none, 0, 0, true, rfl, _, Bx.writes (l := [Value.slice r.a r.an r.ac, .slice r.w r.wn r.wc, .slice r.g r.gn r.gc, .int .i64 tr]) hb78 [.slice r.a r.an r.ac, .slice r.w r.wn r.wc, .slice r.g r.gn r.gc, .int .i64 tr] rfl, ?_⟩
          have hS2 := step hr1 stay
          generalize H78.upd kv (.cells [Value.slice r.a r.an r.ac, .slice r.w r.wn r.wc, .slice r.g r.gn r.gc, .int .i64 tr].toArray 31 (0, 0)) = H93 at hS2 ⊢
          refine (sameAll_ok (l := []) (RdL.nil _ _ _) (RdL.nil _ _ _) (by simp) (by omega)).mono ?_
          rintro _ H95 ⟨rfl, s95⟩
          refine ⟨true, rfl, fun e => by simp at e, fun _ => ?_⟩
          have hS3 := hS2.mono s95
          exact key H95 ⟨F', got, tr, r, G, hS3, by omega, hGm⟩
        · exact absurd ht0 h1
      · refine ⟨b, mm, cc, false, rfl, r.a, r.an, r.ac, r.w, r.wn, r.wc, r.g, r.gn, r.gc, tr, hbv62.reads, (ref hr1).mono ?_⟩
        rintro _ H78 ⟨F', ⟨h1, _⟩ | ⟨h1, b2, m2, c2, rfl, hag2⟩, stay⟩
        · exact absurd h1 ht0
        · have s78 := stay.hsub (hr1.sub.trans sG1)
          have hb78 := s78.le _ _ hbv62
          refine ⟨r.a, r.an, r.ac, r.w, r.wn, r.wc, r.g, r.gn, r.gc, IntKind.i64.wrap (tr - 1), b2, m2, c2, false, rfl, _, Bx.writes (l := [Value.slice r.a r.an r.ac, .slice r.w r.wn r.wc, .slice r.g r.gn r.gc, .int .i64 tr]) hb78 [.slice r.a r.an r.ac, .slice r.w r.wn r.wc, .slice r.g r.gn r.gc, .int .i64 (IntKind.i64.wrap (tr - 1))] rfl, ?_⟩
          have hS2 := step hr1 stay
          have hF'v : F' kv = none := stay.none hbv62 hS.offv
          have hres : RdL (rest H62 [kv]) mE 13 b mm (again asks got) := hagain.mono sG1r
          have hres2 : Sub (rest H62 [kv]) (H78.upd kv (.cells [Value.slice r.a r.an r.ac, .slice r.w r.wn r.wc, .slice r.g r.gn r.gc, .int .i64 (IntKind.i64.wrap (tr - 1))].toArray 31 (0, 0))) := ((rest_sub _ _).trans s78).wr (rest_none (by simp))
          generalize H78.upd kv (.cells [Value.slice r.a r.an r.ac, .slice r.w r.wn r.wc, .slice r.g r.gn r.gc, .int .i64 (IntKind.i64.wrap (tr - 1))].toArray 31 (0, 0)) = H93 at hS2 hres2 ⊢
          rw [again_eq hS.bo] at hres
          have hml := hres.len
          have hml2 := hag2.len
          have hmm : m2 = mm := by omega
          subst hmm
          have hle : (againG asks G).length ≤ asks.length := List.length_filter_le ..
          refine (sameAll_ok (hres.mono hres2) (hag2.mono hS2.sub) (fun z hz => (hoka z (List.mem_filter.1 hz).1).mono (hS2.st.trans hS2.sub)) (by omega)).mono ?_
          rintro _ H95 ⟨rfl, s95⟩
          refine ⟨true, rfl, fun e => by simp at e, fun _ => ?_⟩
          have hS3 := hS2.mono s95
          exact key H95 ⟨F', got, _, r, G, hS3, by omega, hGm⟩
    · -- an answer
      have ht := htake hS.rs
      rw [← hxe] at ht
      refine (ht.frame (rest_sub _ _)).mono ?_
      rw [hxe]
      rintro _ H134 ⟨G1, ⟨rfl, hr1⟩, sG1, hkeep⟩
      have hbv134 : Bx H134 kv 31 [.slice r.a r.an r.ac, .slice r.w r.wn r.wc, .slice r.g r.gn r.gc, .int .i64 tr] := (hkeep kv _ hS.bv (rest_none (by simp))).1
      have hG1v : G1 kv = none := (hkeep kv _ hS.bv (rest_none (by simp))).2
      have hrt : Triple Try.prog 12 #[r.v tr, vM x] H134 fun v H' => ∃ F', (∃ r' : RV, v = .tuple #[r'.v tr, .bool (takesG wait G x)] ∧ RdR F' r' asks wait (if takesG wait G x then insG G x else G)) ∧ Stay F H134 F' H' := by
        refine Triple.ro (hrtake.mono ?_) (hr1.sub.trans sG1)
        rintro v F' ⟨r', g1, g2, _, _, _, g3⟩
        exact ⟨⟨r', g1, g2⟩, g3⟩
      rw [← hxe] at hrt
      refine ⟨_, rfl, r.a, r.an, r.ac, r.w, r.wn, r.wc, r.g, r.gn, r.gc, tr, hbv134.reads, hrt.mono ?_⟩
      rw [hxe]
      rintro _ H147 ⟨F', ⟨r', rfl, hrr⟩, stay⟩
      have hF'v : F' kv = none := stay.none hbv134 hS.offv
      have hb147 := (stay.hsub (hr1.sub.trans sG1)).le _ _ hbv134
      rw [takes_eq hS.bo] at hr1 ⊢
      refine ⟨r'.a, r'.an, r'.ac, r'.w, r'.wn, r'.wc, r'.g, r'.gn, r'.gc, tr, takesG wait G x, rfl, _, Bx.writes (l := [Value.slice r.a r.an r.ac, .slice r.w r.wn r.wc, .slice r.g r.gn r.gc, .int .i64 tr]) hb147 [.slice r'.a r'.an r'.ac, .slice r'.w r'.wn r'.wc, .slice r'.g r'.gn r'.gc, .int .i64 tr] rfl, fun e => by cases hh : takesG wait G x <;> simp [hh] at e, fun _ => ?_⟩
      have hS2 : Sys H F' (H147.upd kv (.cells [Value.slice r'.a r'.an r'.ac, .slice r'.w r'.wn r'.wc, .slice r'.g r'.gn r'.gc, .int .i64 tr].toArray 31 (0, 0))) k kv asks wait (if takesG wait G x then got ++ [(from_ x, x)] else got) tr r' (if takesG wait G x then insG G x else G) := by
        refine ⟨hS.st.trans stay.fsub, hr1.stay sG1 stay (rest_le (stay.sub.wr hF'v) fun q hq => by rw [List.mem_singleton] at hq; rw [hq]; exact hF'v) fun q o hq hq' => ?_, Bx.new _ _ _ _, hF'v, hrr, ?_⟩
        · have hne : q ≠ kv := fun e => by rw [e, hG1v] at hq; cases hq
          rw [rest_at (by simpa using hne), Vx.upd_ne _ _ hne]; exact hq'
        · split
          · rename_i htk; exact hS.bo.put (takes_new htk)
          · exact hS.bo
      generalize H147.upd kv (.cells [Value.slice r'.a r'.an r'.ac, .slice r'.w r'.wn r'.wc, .slice r'.g r'.gn r'.gc, .int .i64 tr].toArray 31 (0, 0)) = H159 at hS2 ⊢
      refine key H159 ⟨F', _, _, r', _, hS2, ?_, fun z hz => ?_⟩
      · split
        · rw [ins_len]; omega
        · omega
      · split at hz
        · rcases mem_ins.1 hz with h | rfl
          · exact hGm z h
          · exact hxl
        · exact hGm z hz
  · -- what both have then
    rintro H95 ⟨F, got, tr, r, G, hS, hGl, hGm⟩
    have hgn := hS.rr.got.len
    have hwn := hS.rr.wait.len
    have ro : ∀ {f : FuncId} {args : Array Value} {H' : PHeap} {R : Value → PHeap → Prop}, Triple Try.prog f args (rest H' [kv]) (fun v F' => R v F' ∧ Sub (rest H' [kv]) F') → Triple Try.prog f args H' fun v H'' => (∃ F', R v F' ∧ Sub F' H'') ∧ Sub H' H'' := fun h =>
      (Triple.ro h (rest_sub _ _)).mono fun v H'' ⟨F', h1, h2⟩ => ⟨⟨F', h1, h2.sub⟩, h2.hsub (rest_sub _ _)⟩
    refine ⟨H95, Sub.refl _, r.a, r.an, r.ac, r.w, r.wn, r.wc, r.g, r.gn, r.gc, tr, hS.bv.reads, (ro (all_ok hS.rs)).mono ?_⟩
    rintro _ H109 ⟨⟨_, rfl, _⟩, s109⟩
    refine ⟨_, rfl, s109, (refAll_ok (r := r) (tries := tr) ((hS.rr.mono hS.sub).mono s109) (by omega) (by omega)).mono ?_⟩
    rintro _ H112 ⟨rfl, hHH⟩
    obtain rfl := hHH.symm
    rw [all_eq hS.bo]
    refine ⟨_, rfl, s109, fun _ => ⟨obP kv, r.g, r.gn, r.gc, hS.bv.fld rfl, ?_⟩, fun e => by cases hh : (wait.all fun i => decide (i ∈ froms G)) <;> simp [hh] at e⟩
    have hS4 := hS.mono s109
    have hgk := (hS.bo.keys).length_eq
    rw [List.length_map, List.length_map] at hgk
    refine (ro (R := fun v F' => ∃ b n c, v = Value.slice b n c ∧ RdL F' mE 13 b n G) ((got_ok hS4.rs (by omega)).mono ?_)).mono ?_
    · rintro v F' ⟨b, n, c, K, g1, g2, g3, g4⟩
      rw [hS.bo.got g2] at g3
      exact ⟨⟨b, n, c, g1, g3⟩, g4⟩
    rintro _ H118 ⟨⟨F', ⟨b, n', c', rfl, g3⟩, g4⟩, s118⟩
    have hn' : n' = r.gn := by rw [← g3.len, hgn]
    subst hn'
    have hS5 := hS4.mono s118
    refine ⟨b, _, c', rfl, s109.trans s118, (sameAll_ok (g3.mono g4) (hS5.rr.got.mono hS5.sub) (fun z hz => (hokl z (hGm z hz)).mono (hS5.st.trans hS5.sub)) (by omega)).mono ?_⟩
    rintro _ H123 ⟨rfl, s123⟩
    have hS6 := hS5.mono s123
    refine ⟨true, rfl, fun _ => (ro (R := fun v F' => ∃ b n c, v = Value.slice b n c ∧ RdL F' mE 13 b n asks) ((asks_ok hS6.rs).mono ?_)).mono ?_, fun e => by simp at e⟩
    · rintro v F' ⟨b, n, c, g1, g2, g3, _⟩
      exact ⟨⟨b, n, c, g1, g2.rd (E := mE) (sz := 13) (by omega) mLen⟩, g3⟩
    rintro _ H126 ⟨⟨F', ⟨b', n', c', rfl, g5⟩, g6⟩, s126⟩
    have hS7 := hS6.mono s126
    have hH126 := hS7.st.trans hS7.sub
    have hn'' : n' = n := by rw [← g5.len, hal]
    subst hn''
    refine ⟨b', _, c', rfl, (sameAll_ok (g5.mono g6) (ha.mono hH126) (fun z hz => (hoka z hz).mono hH126) (by omega)).mono ?_⟩
    rintro _ H131 ⟨rfl, s131⟩
    exact ⟨true, rfl, fun e => by simp at e, fun _ => ⟨⟨by omega, by omega, F, got, tr, r, G, hS7.mono s131, by rw [show ((i : Int) + 1).toNat = i + 1 by omega]; exact hGl, hGm⟩, ⟨by simp only; omega⟩⟩⟩
end Go.Rnd
