/- The law AgreeTwice: the walk. -/
import Derived.Test.YthcfmcmmmpfjoaaAgrW
namespace Go.Agr
open Go.Vx Go.Vc Go.Proofs Go.Pln Go.Stl
open Go.Rnd (takesG insG froms againG RdR RV OkM AscG)

theorem RefA.mono {H H' : PHeap} {u : Value} {s : St} (h : RefA H u s) (hs : Sub H H') : RefA H' u s := by
  obtain ⟨h1, h2, r, x, h3, h4, h5⟩ := h
  exact ⟨h1.mono hs, h2, r, x, h3, h4.mono hs, h5.mono hs⟩
def DoneV (H : PHeap) (s : St) (w : Value) (o : Bool) : Prop := (s.over = false ∧ Value.tuple #[w, .bool o] = .tuple #[.agg zeroR.toArray, .bool false]) ∨ (s.over = true ∧ ∃ x : AV, Value.tuple #[w, .bool o] = .tuple #[.agg (cellsR s x).toArray, .bool true] ∧ SlA H s x)
theorem done2_ok {F H : PHeap} {k : Nat} {s : St} (hA : AgS F H k s) : Triple Try.prog 12 #[.pointer (at0 k)] H fun v H' => H' = H ∧
    ∃ (b1 b2 b3 : Bool) (n1 n2 n3 : Int) (a1 : Option Addr) (k1 c1 : Nat) (a2 : Option Addr) (k2 c2 : Nat) (a3 : Option Addr) (k3 c3 : Nat) (o : Bool), v = .tuple #[.agg #[.bool b1, .bool b2, .bool b3, vI n1, vI n2, vI n3, .slice a1 k1 c1, .slice a2 k2 c2, .slice a3 k3 c3], .bool o] ∧
      DoneV H s (.agg #[.bool b1, .bool b2, .bool b3, vI n1, vI n2, vI n3, .slice a1 k1 c1, .slice a2 k2 c2, .slice a3 k3 c3]) o := by
  refine (done_ok hA).mono ?_
  rintro v H' ⟨hH, hv⟩
  refine ⟨hH, ?_⟩
  rcases hv with ⟨ho, rfl⟩ | ⟨ho, x, rfl, hS⟩
  · exact ⟨_, _, _, _, _, _, _, _, _, _, _, _, _, _, _, _, rfl, .inl ⟨ho, rfl⟩⟩
  · exact ⟨_, _, _, _, _, _, _, _, _, _, _, _, _, _, _, _, rfl, .inr ⟨ho, x, rfl, hS⟩⟩
/-- Both objects, and the document's value, apart from one another. -/
structure Tri (F H : PHeap) (k k2 : Nat) (u : Value) (s : St) : Prop where
  sml : Sml s
  row : ∃ A B R X, Parts F B X H ∧ Parts F A R X ∧ AgS F A k s ∧ AgS F B k2 s ∧ RefA R u s
theorem AgS.sub' {F H : PHeap} {k : Nat} {s : St} (h : AgS F H k s) : Sub F H := let ⟨_, h⟩ := h; h.sub
theorem AgS.pok {F H : PHeap} {k : Nat} {s : St} (h : AgS F H k s) : s.p.ok = true := let ⟨_, h⟩ := h; h.inv.pok
theorem AgS.len {F H : PHeap} {k : Nat} {s : St} (h : AgS F H k s) : s.G.length ≤ 256 := let ⟨_, h⟩ := h; h.inv.len
/-- A step of each. -/
theorem step3 {f r : FuncId} {ar : Array Value} {F H : PHeap} {k k2 : Nat} {u : Value} {s : St} {out : St × List Msg} (h : Tri F H k k2 u s) (hout : SmlR out)
    (h1 : ∀ {H : PHeap} {k : Nat}, AgS F H k s → Triple Try.prog f (#[.pointer (at0 k)] ++ ar) H (Did F k out))
    (h2 : ∀ {R : PHeap} {u : Value}, Sub F R → RefA R u s → Triple Try.prog r (#[u] ++ ar) R (RBegan R out)) {Q : Value → PHeap → Prop}
    (hQ : ∀ {H1 : PHeap} {b : Option Addr} {n c : Nat}, Sub F H1 → Triple Try.prog f (#[.pointer (at0 k2)] ++ ar) H1 (fun v H2 => ∃ b2 c2, v = .slice b2 n c2 ∧ Sub F H2 ∧ (∀ H2', Sub H2 H2' → Triple Try.prog r (#[u] ++ ar) H2' fun v H3 => ∃ u' b3 n3 c3, v = .tuple #[u', .slice b3 n3 c3] ∧ Tri F H3 k k2 u' out.1 ∧
      RdL H3 mE 13 b n out.2 ∧ RdL H3 mE 13 b2 n out.2 ∧ n ≤ 1000) ∧ RdL H2 mE 13 b n out.2 ∧ RdL H2 mE 13 b2 n out.2 ∧ n ≤ 1000) → Q (.slice b n c) H1) :
    Triple Try.prog f (#[.pointer (at0 k)] ++ ar) H Q := by
  obtain ⟨hs, A, B, R, X, hp, hq, ha, hb, hr⟩ := h
  refine (Triple.part hp.swap (Triple.part hq (h1 ha) fun v A' ⟨_, _, _, _, _, h⟩ => AgS.sub' h) fun v X' ⟨_, _, h⟩ => h.fa.trans h.a).mono ?_
  rintro _ H1 ⟨X1, ⟨A1, ⟨b, n, c, rfl, hrd, hA1⟩, hq1⟩, hp1⟩
  have hn : n ≤ 1000 := by rw [← hrd.len]; exact hout.len
  refine hQ (hp1.fb.trans hp1.b) ((Triple.part hp1.swap (h1 hb) fun v A' ⟨_, _, _, _, _, h⟩ => AgS.sub' h).mono ?_)
  rintro _ H2 ⟨B2, ⟨b2, n2, c2, rfl, hrd2, hB2⟩, hp2⟩
  have hn2 : n2 = n := by rw [← hrd.len, ← hrd2.len]
  subst hn2
  have r1 := hrd.mono (hq1.a.trans hp2.b)
  have r2 := hrd2.mono hp2.a
  refine ⟨b2, c2, rfl, hp2.fa.trans hp2.a, fun H2' hs2' => ?_, r1, r2, hn⟩
  replace hp2 := hp2.mono hs2'
  refine (Triple.part hp2.swap (Triple.part hq1.swap (h2 hq1.fb hr) fun v R' ⟨_, _, _, _, _, _, _, h⟩ => hq1.fb.trans h) fun v X' ⟨_, _, h⟩ => h.fa.trans h.a).mono ?_
  rintro _ H3 ⟨X3, ⟨R3, ⟨u', b3, n3, c3, rfl, hR3, _, _⟩, hq3⟩, hp3⟩
  have s23 : Sub A1 H3 := hq3.b.trans hp3.a
  exact ⟨u', b3, n3, c3, rfl, ⟨hout.s, A1, B2, R3, X3, hp3.swap, hq3.swap, hA1, hB2, hR3⟩, hrd.mono s23, hrd2.mono hp3.b, hn⟩
theorem Tri.sub {F H : PHeap} {k k2 : Nat} {u : Value} {s : St} (h : Tri F H k k2 u s) : Sub F H := by
  obtain ⟨_, A, B, R, X, hp, _⟩ := h
  exact hp.fa.trans hp.a
theorem Tri.mono {F H H' : PHeap} {k k2 : Nat} {u : Value} {s : St} (h : Tri F H k k2 u s) (hs : Sub H H') : Tri F H' k k2 u s := by
  obtain ⟨h0, A, B, R, X, hp, h1⟩ := h
  exact ⟨h0, A, B, R, X, hp.mono hs, h1⟩
theorem Tri.tick_len {F H : PHeap} {k k2 : Nat} {u : Value} {s : St} (h : Tri F H k k2 u s) : s.judge.1.asks.length ≤ 100000 := by
  obtain ⟨h0, A, B, R, X, _, _, ha, _⟩ := h
  have := (h0.judge ha.pok (Nat.le_trans ha.len (by decide))).s.asks
  omega
theorem Tri.smlT {F H : PHeap} {k k2 : Nat} {u : Value} {s : St} (h : Tri F H k k2 u s) : SmlR s.tick := by
  obtain ⟨h0, A, B, R, X, _, _, ha, _⟩ := h
  exact h0.tick ha.pok ha.len
theorem Tri.smlK {F H : PHeap} {k k2 : Nat} {u : Value} {s : St} (h : Tri F H k k2 u s) (m : Msg) : SmlR (s.take m) := by
  obtain ⟨h0, A, B, R, X, _, _, ha, _⟩ := h
  exact h0.take ha.pok ha.len m
theorem Tri.over {F H : PHeap} {k k2 : Nat} {u : Value} {s : St} (h : Tri F H k k2 u s) : AgS F H k s ∧ AgS F H k2 s ∧ RefA H u s := by
  obtain ⟨h0, A, B, R, X, hp, hq, ⟨ka, ha⟩, ⟨kb, hb⟩, hr⟩ := h
  exact ⟨⟨ka, ha.mono (hq.a.trans hp.b)⟩, ⟨kb, hb.mono hp.a⟩, hr.mono (hq.b.trans hp.b)⟩
theorem RefA.ex {H : PHeap} {u : Value} {s : St} (h : RefA H u s) : ∃ r x, u = .agg (cellsV s (stt s) r x).toArray := by
  obtain ⟨_, _, r, x, h, _⟩ := h
  exact ⟨r, x, h⟩
theorem twice_ok {H : PHeap} {p : Plan} {b : Int} {nm : ByteArray} {fx flag : Bool} {v : Val} {oa : Option Addr} {n c : Nat} {l : List Msg} (hl : RdL H mE 13 oa n l) (hm : ∀ x ∈ l, MsgR H x) (hn : n ≤ maxLen) :
    Triple Try.prog 5 #[p.v, .agg #[vI b, .string nm, .bool fx, .bool flag, .bool v.pr, vI v.at_, vI v.ep, vI v.sz], .slice oa n c] H fun v H' => v = .bool true ∧ Sub H H' := by
  have hll := hl.len
  have al : ∀ {G : PHeap}, Sub H G → Triple Try.prog 8 #[] G fun v H' => ∃ b, v = .bool b ∧ (Value.bool b = .bool true ∧ Sub H H') := fun hs => (alive_ok _).mono fun _ _ ⟨e, h⟩ => ⟨true, e, rfl, hs.trans h⟩
  refine lawTwice.vc p.n p.t p.l p.w p.s p.r b nm fx flag v.pr v.at_ v.ep v.sz oa n c H _ ((farL_ok hl hm hn).mono ?_)
  rintro _ H19 ⟨b20, rfl, hH, hb⟩
  rw [hH]
  refine ⟨b20, rfl, fun e1 => (refRight_ok p).use ⟨_, rfl, fun _ => al (Sub.refl _), fun e2 => ?_⟩, fun _ => al (Sub.refl _)⟩
  obtain ⟨hn2, hok⟩ := hb e1
  have hp : p.ok = true := by
    cases h : p.ok with
    | true => rfl
    | false => rw [h] at e2; simp at e2
  have hml := Sml.made hp b nm fx flag v
  refine (made_ok (v := v) hp).mono ?_
  rintro _ H28 ⟨k, u, bb, nb, cb, b2, n2, c2, G, R, rfl, hA, _, hR, _, hG, hRs, hGs, hRs2, hap⟩
  obtain ⟨r1, x1, hu⟩ := hR.ex
  refine ⟨_, _, _, _, _, _, _, _, _, _, _, _, _, _, _, _, _, _, _, _, _, _, _, _, _, _, _, _, _, _, _, _, _, _, _, _, _, _, bb, nb, cb, b2, n2, c2, by rw [hu], ?_⟩
  have p28 : Parts H G R H28 := ⟨hG, hRs, hGs, hRs2, hap⟩
  have p0 : Parts H H H28 H28 := ⟨Sub.refl _, hG.trans hGs, hG.trans hGs, Sub.refl _, fun q hq => .inl hq⟩
  refine (Triple.part p0 (made_ok (b := b) (nm := nm) (fx := fx) (flag := flag) (v := v) hp) ?_).mono ?_
  · rintro _ A' ⟨_, _, _, _, _, _, _, _, _, _, _, _, _, _, _, g1, _, g2, _⟩
    exact g1.trans g2
  rintro _ H74 ⟨A', ⟨k2, u2, bb2, nb2, cb2, b22, n22, c22, G2, R2, rfl, hA2, _, hR2, _, hG2, _, hGs2, _, _⟩, p74⟩
  obtain ⟨r2, x2, hu2⟩ := hR2.ex
  refine ⟨_, _, _, _, _, _, _, _, _, _, _, _, _, _, _, _, _, _, _, _, _, _, _, _, _, _, _, _, _, _, _, _, _, _, _, _, _, _, bb2, nb2, cb2, b22, n22, c22, by rw [hu2], ?_⟩
  have p74' : Parts H G2 H28 H74 := ⟨hG2, p74.fb, hGs2.trans p74.a, p74.b, fun q hq => (p74.apart q hq).imp (fun h => hGs2.none h) id⟩
  have T0 : Tri H H74 k k2 u (madeS p b nm fx flag v).1 := ⟨hml.s, G, G2, R, H28, p74', p28, hA, hA2, hR⟩
  generalize (madeS p b nm fx flag v).1 = s0 at T0 hu
  rw [hu] at T0
  refine ⟨fun t H' => match t with | [.int _ i, w] => 0 ≤ i ∧ i ≤ n ∧ ∃ s, Tri H H' k k2 w s | _ => False, fun t _ => match t with | [.int _ i, _] => (n - i).toNat | _ => 0, ⟨by omega, by omega, s0, T0⟩, ?_⟩
  clear hA hA2 hR hR2 hu hu2 T0 p74' p74 p28 p0 hG hRs hGs hRs2 hap hml
  rintro i n122 n123 n124 n125 n126 n127 n128 s129 b130 b131 n132 n133 a134 k135 k136 a137 k138 k139 a140 k141 k142 n143 b144 b145 b146 n147 n148 n149 a150 k151 k152 a153 k154 k155 a156 k157 k158 H159 ⟨i0, i1, s, hT⟩
  generalize hw : Value.agg #[vI n122, vI n123, vI n124, vI n125, vI n126, vI n127, vI n128, .string s129, .bool b130, .bool b131, vI n132, vI n133, .slice a134 k135 k136, .slice a137 k138 k139, .slice a140 k141 k142, vI n143, .bool b144, .bool b145, .bool b146, vI n147, vI n148, vI n149, .slice a150 k151 k152, .slice a153 k154 k155, .slice a156 k157 k158] = w at hT ⊢
  clear hw
  have s159 := hT.sub
  refine ⟨fun hi => ?_, fun hi => ?_⟩
  · have hi' : i < n := by simpa using hi
    have hl1 := hl.mono s159
    obtain ⟨y, hy, hyr⟩ := hl1.ex (i := i) (by omega) (by omega)
    have hoky := hok y (List.mem_of_getElem? hy)
    have hsk := hT.smlK y
    have htk : ∀ {H' : PHeap} {k : Nat}, AgS H H' k s → Triple Try.prog 11 (#[.pointer (at0 k)] ++ #[Rnd.vM y]) H' (Did H k (s.take y)) := fun h => take_ok h hoky
    have hrk : ∀ {R : PHeap} {u : Value}, Sub H R → RefA R u s → Triple Try.prog 16 (#[u] ++ #[Rnd.vM y]) R (RBegan R (s.take y)) := fun hs h => raTake_ok h (hoky.mono hs)
    have h2k : ∀ {H' : PHeap} {k : Nat}, AgS H H' k (s.take y).1 → Triple Try.prog 11 #[.pointer (at0 k), Rnd.vM y] H' (Did H k ((s.take y).1, [])) := fun h => by
      have := take_ok h hoky
      rwa [take_twice] at this
    rw [Rnd.wrapS (i := i) (by omega) (by omega)]
    generalize s.take y = out at hsk htk hrk h2k
    have hob := hl1.ob (i := i) (by omega) (by omega)
    obtain ⟨y1, y2, y3, y4, y5, y6, y7, y8, y9, y10, ⟨ya, yb, yc, yl⟩, ⟨za, zb, zc, zl⟩, ⟨wa, wb, wc, wl⟩⟩ := y
    refine ⟨hob, y1, y2, y3, y4, y5, y6, y7, y8, y9, y10, ya, yb, yc, za, zb, zc, wa, wb, wc, hyr, fun e3 => ?_, fun e3 => ⟨H, s159, ?_⟩⟩
    · refine step3 (ar := #[]) hT hT.smlT (fun h => tick_ok h) (fun _ h => raTick_ok h hT.tick_len) ?_
      intro H1 b1 n1 c1 s1 hb1
      refine ⟨b1, n1, c1, rfl, hb1.mono ?_⟩
      rintro _ H2 ⟨b2, c2, rfl, s2, hx, q1, q2, hn1⟩
      refine ⟨b2, n1, c2, rfl, (Rnd.sameAll_ok q1 q2 (fun m hm => (hT.smlT.bare m hm).ok _) (by omega)).mono ?_⟩
      rintro _ H4 ⟨rfl, hs4⟩
      refine ⟨true, rfl, fun e => (by cases e), fun _ => (hx _ hs4).mono ?_⟩
      rintro _ H3 ⟨u', b3, n3, c3, rfl, hT3, _⟩
      obtain ⟨r3, x3, hu3⟩ := hT3.over.2.2.ex
      refine ⟨_, _, _, _, _, _, _, _, _, _, _, _, _, _, _, _, _, _, _, _, _, _, _, _, _, _, _, _, _, _, _, _, _, _, _, _, _, b3, n3, c3, by rw [hu3], ⟨by omega, by omega, s.tick.1, ?_⟩, ⟨by simp only; omega⟩⟩
      rw [hu3] at hT3
      exact hT3
    · refine step3 (ar := #[Rnd.vM (y1, y2, y3, y4, y5, y6, y7, y8, y9, y10, ⟨ya, yb, yc, yl⟩, ⟨za, zb, zc, zl⟩, ⟨wa, wb, wc, wl⟩)]) hT hsk htk hrk ?_
      intro H1 b1 n1 c1 s1 hb1
      refine ⟨b1, n1, c1, rfl, s1, hb1.mono ?_⟩
      rintro _ H2 ⟨b2, c2, rfl, s2, hx, _, _, hn1⟩
      refine ⟨b2, n1, c2, rfl, (hx _ (Sub.refl _)).mono ?_⟩
      rintro _ H3 ⟨u', b3, n3, c3, rfl, hT3, q1, q2, _⟩
      obtain ⟨r3, x3, hu3⟩ := hT3.over.2.2.ex
      refine ⟨_, _, _, _, _, _, _, _, _, _, _, _, _, _, _, _, _, _, _, _, _, _, _, _, _, _, _, _, _, _, _, _, _, _, _, _, _, b3, n3, c3, by rw [hu3], ?_⟩
      refine (Rnd.sameAll_ok q1 q2 (fun m hm => (hsk.bare m hm).ok _) (by omega)).mono ?_
      rintro _ H4 ⟨rfl, hs4⟩
      refine ⟨true, rfl, fun _ => ?_, fun e => by cases e⟩
      have hT4 := hT3.mono hs4
      obtain ⟨h0, A, B, R, X, hp', hq', hAa, hBb, hRr⟩ := hT4
      refine (Triple.part hp' (h2k hBb) fun v A' ⟨_, _, _, _, _, h⟩ => AgS.sub' h).mono ?_
      rintro _ H5 ⟨B5, ⟨b5, n5, c5, rfl, hrd5, hB5⟩, hp5⟩
      have hn5 : n5 = 0 := hrd5.len.symm
      subst hn5
      refine ⟨b5, 0, c5, rfl, fun e => (by simp at e), fun _ => ⟨⟨by omega, by omega, out.1, ?_⟩, ⟨by simp only; omega⟩⟩⟩
      have : Tri H H5 k k2 u' out.1 := ⟨h0, A, B5, R, X, hp5, hq', hAa, hB5, hRr⟩
      rw [hu3] at this
      exact this
  · obtain ⟨o1, o2, o3⟩ := hT.over
    refine (done2_ok o1).mono ?_
    rintro _ H296 ⟨hH3, d1, d2, d3, d4, d5, d6, d7, d8, d9, d10, d11, d12, d13, d14, d15, d16, rfl, hd⟩
    rw [hH3]
    refine ⟨_, _, _, _, _, _, _, _, _, _, _, _, _, _, _, _, rfl, (done2_ok o2).mono ?_⟩
    rintro _ H314 ⟨hH4, g1, g2, g3, g4, g5, g6, g7, g8, g9, g10, g11, g12, g13, g14, g15, g16, rfl, hg⟩
    rw [hH4]
    refine ⟨_, _, _, _, _, _, _, _, _, _, _, _, _, _, _, _, rfl, (lawSame_ok o3 hT.sml (Sub.refl _) hd).mono ?_⟩
    rintro _ H332 ⟨rfl, hs5⟩
    refine ⟨true, rfl, fun _ => (lawSame_ok (o3.mono hs5) hT.sml hs5 hg).mono ?_, fun e => by cases e⟩
    rintro _ H335 ⟨rfl, hs6⟩
    exact ⟨true, rfl, fun _ => al (s159.trans (hs5.trans hs6)), fun e => by cases e⟩
end Go.Agr
