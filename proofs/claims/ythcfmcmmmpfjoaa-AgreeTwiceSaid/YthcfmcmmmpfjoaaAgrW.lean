/- An agreement's lists are short, and what it asks has no lists. -/
import Derived.Test.YthcfmcmmmpfjoaaAgrV
namespace Go.Agr
open Go.Vx Go.Vc Go.Proofs Go.Pln Go.Stl
open Go.Rnd (takesG insG froms againG RdR RV OkM AscG)

/-- A message without lists. -/
structure Bare (m : Msg) : Prop where
  who : m.2.2.2.2.2.2.2.2.2.2.1 = ⟨none, 0, 0, []⟩
  names : m.2.2.2.2.2.2.2.2.2.2.2.1 = ⟨none, 0, 0, []⟩
  data : m.2.2.2.2.2.2.2.2.2.2.2.2 = ⟨none, 0, 0, []⟩
theorem Bare.ok {m : Msg} (h : Bare m) (H : PHeap) : OkM H m := by
  obtain ⟨y1, y2, y3, y4, y5, y6, y7, y8, y9, y10, w, n, d⟩ := m
  obtain ⟨h1, h2, h3⟩ := h
  dsimp only at h1 h2 h3
  subst h1 h2 h3
  exact ⟨RdL.nil _ _ _, RdL.nil _ _ _, RdL.nil _ _ _, by simp, by simp, by simp⟩
structure Sml (s : St) : Prop where
  said : s.said.length ≤ 1000
  holders : s.holders.length ≤ 1000
  acks : s.acks.length ≤ 1000
  asks : s.asks.length ≤ 1000
  bare : ∀ m ∈ s.asks, Bare m
theorem bare_all {p : Plan} {b : Int} {nm : ByteArray} {m : Msg} (h : Bare m) : ∀ x ∈ askAll p b nm m, Bare x := fun x hx => by
  obtain ⟨i, _, rfl⟩ := List.mem_map.1 hx
  exact ⟨h.who, h.names, h.data⟩
theorem askAll_len (p : Plan) (b : Int) (nm : ByteArray) (m : Msg) : (askAll p b nm m).length = p.n.toNat := by unfold askAll; rw [List.length_map, ids_len]
theorem bare_fix (k : Int) (v : Val) : Bare (mfix k v) := ⟨rfl, rfl, rfl⟩
theorem bare_ask : Bare mask := ⟨rfl, rfl, rfl⟩
theorem pn_le {p : Plan} (h : p.ok = true) : p.n.toNat ≤ 256 := by
  have := (Plan.ok_iff.1 h).n2
  omega
theorem Sml.ask {s : St} {m : Msg} (hp : s.p.ok = true) (h1 : s.said.length ≤ 1000) (h2 : s.holders.length ≤ 1000) (h3 : s.acks.length ≤ 1000) (hm : Bare m) : Sml (s.ask m).1 ∧ (∀ x ∈ (s.ask m).2, Bare x) ∧ (s.ask m).2.length ≤ 1000 := by
  have hl := askAll_len s.p s.ballot s.name m
  have := pn_le hp
  exact ⟨⟨h1, h2, h3, by show (askAll s.p s.ballot s.name m).length ≤ 1000; omega, bare_all hm⟩, bare_all hm, by show (askAll s.p s.ballot s.name m).length ≤ 1000; omega⟩
/-- What a step leaves is short. -/
structure SmlR (r : St × List Msg) : Prop where
  s : Sml r.1
  bare : ∀ m ∈ r.2, Bare m
  len : r.2.length ≤ 1000
theorem SmlR.nil {s : St} (h : Sml s) : SmlR (s, []) := ⟨h, fun m hm => (by cases hm), Nat.zero_le _⟩
theorem Sml.fix {s : St} {v : Val} (hp : s.p.ok = true) (h1 : s.said.length ≤ 1000) (h2 : s.holders.length ≤ 1000) (h3 : s.acks.length ≤ 1000) : SmlR (s.fix v) :=
  let ⟨a, b, c⟩ := Sml.ask (s := { s with fixed := true, value := v }) (m := mfix s.mark v) hp h1 h2 h3 (bare_fix _ _)
  ⟨a, b, c⟩
theorem verd_len (p : Plan) (L : List Msg) : (verd p L).holders.length ≤ L.length := by
  unfold verd
  split
  · exact Nat.le_trans (hold_len _ _) (List.length_filter_le ..)
  · exact Nat.zero_le _
theorem Sml.judge {s : St} (h : Sml s) (hp : s.p.ok = true) (hg : s.G.length ≤ 1000) : SmlR s.judge := by
  have hv := verd_len s.p s.G
  have ha : (ackL s.G).length ≤ s.G.length := List.length_filter_le ..
  have hh := hold_len s.value (ackL s.G)
  have hc : Sml s.counted := ⟨h.said, by show (holdL s.value (ackL s.G)).length ≤ 1000; omega, by show ((ackL s.G).map from_).length ≤ 1000; rw [List.length_map]; omega, h.asks, h.bare⟩
  unfold St.judge
  split
  · unfold St.judge1
    split
    · exact .nil ⟨hc.said, hc.holders, hc.acks, hc.asks, hc.bare⟩
    · exact .nil hc
  · unfold St.judge0
    split
    · split
      · exact .nil ⟨hg, by show (verd s.p s.G).holders.length ≤ 1000; omega, h.acks, h.asks, h.bare⟩
      · exact Sml.fix hp hg h.holders h.acks
    · split
      · exact .nil ⟨h.said, h.holders, h.acks, h.asks, h.bare⟩
      · exact .nil h
theorem Sml.take {s : St} (h : Sml s) (hp : s.p.ok = true) (hg : s.G.length ≤ 256) (m : Msg) : SmlR (s.take m) := by
  have hs : Sml (s.got m) := ⟨h.said, h.holders, h.acks, h.asks, h.bare⟩
  unfold St.take
  split
  · exact .nil h
  · split
    · split
      · exact hs.judge hp (by show (insG s.G m).length ≤ 1000; rw [Rnd.ins_len]; omega)
      · exact .nil hs
    · exact .nil h
theorem Sml.tick {s : St} (h : Sml s) (hp : s.p.ok = true) (hg : s.G.length ≤ 256) : SmlR s.tick := by
  have hj := h.judge hp (by omega)
  unfold St.tick
  split
  · exact .nil h
  · split
    · exact hj
    · unfold St.late
      split
      · exact .nil ⟨hj.s.said, hj.s.holders, hj.s.acks, hj.s.asks, hj.s.bare⟩
      · refine ⟨⟨hj.s.said, hj.s.holders, hj.s.acks, hj.s.asks, hj.s.bare⟩, fun m hm => hj.s.bare m (List.mem_filter.1 hm).1, Nat.le_trans (List.length_filter_le ..) hj.s.asks⟩
theorem Sml.made {p : Plan} (hp : p.ok = true) (b : Int) (nm : ByteArray) (fx flag : Bool) (v : Val) : SmlR (madeS p b nm fx flag v) := by
  unfold madeS
  split
  · exact Sml.fix hp (Nat.zero_le _) (Nat.zero_le _) (Nat.zero_le _)
  · have ⟨a, b, c⟩ := Sml.ask (s := init0 p b nm flag false (IntKind.i64.wrap (2 * b))) (m := mask) hp (Nat.zero_le _) (Nat.zero_le _) (Nat.zero_le _) bare_ask
    exact ⟨a, b, c⟩
/-- The object's answer, and the document's, are the same. -/
theorem lawSame_ok {H Ha : PHeap} {s : St} {u w : Value} {o : Bool} (hu : RefA H u s) (hs : Sml s) (ha : Sub Ha H)
    (hw : (s.over = false ∧ Value.tuple #[w, .bool o] = .tuple #[.agg zeroR.toArray, .bool false]) ∨ (s.over = true ∧ ∃ x : AV, Value.tuple #[w, .bool o] = .tuple #[.agg (cellsR s x).toArray, .bool true] ∧ SlA Ha s x)) :
    Triple Try.prog 17 #[w, .bool o, u] H fun v H' => v = .bool true ∧ Sub H H' := by
  obtain ⟨hI, hnok, r, x, rfl, hR, hS⟩ := hu
  rcases hw with ⟨ho, e⟩ | ⟨ho, x1, e, hS1⟩
  · cases e
    refine lawSame.vc false false false 0 0 0 none 0 0 none 0 0 none 0 0 false s.p.n s.p.t s.p.l s.p.w s.p.s s.p.r s.ballot s.name s.force s.live (stt s) s.mark r.a r.an r.ac r.w r.wn r.wc r.g r.gn r.gc s.tries s.ok s.fixed s.value.pr s.value.at_ s.value.ep s.value.sz x.h x.hn x.hc x.a x.an x.ac x.s x.sn x.sc H _ ?_
    have h2 : (stt s == 2) = false := by unfold stt; rw [ho]; cases s.fixed <;> rfl
    rw [h2]
    exact ⟨fun e => by simp at e, fun _ => ⟨fun _ => ⟨by rfl, Sub.refl _⟩, fun e => by simp at e⟩⟩
  · cases e
    refine lawSame.vc s.ok s.fixed s.value.pr s.value.at_ s.value.ep s.value.sz x1.h x1.hn x1.hc x1.a x1.an x1.ac x1.s x1.sn x1.sc true s.p.n s.p.t s.p.l s.p.w s.p.s s.p.r s.ballot s.name s.force s.live (stt s) s.mark r.a r.an r.ac r.w r.wn r.wc r.g r.gn r.gc s.tries s.ok s.fixed s.value.pr s.value.at_ s.value.ep s.value.sz x.h x.hn x.hc x.a x.an x.ac x.s x.sn x.sc H _ ?_
    have h2 : (stt s == 2) = true := by rw [stt_over ho]; rfl
    rw [h2]
    have hS1 := hS1.mono ha
    have e1 : x1.hn = x.hn := by rw [← hS1.h.len, ← hS.h.len]
    have e2 : x1.an = x.an := by rw [← hS1.a.len, ← hS.a.len]
    have e3 : x1.sn = x.sn := by rw [← hS1.s.len, ← hS.s.len]
    obtain ⟨k1, k2, k3⟩ := hS
    rw [← e1] at k1; rw [← e2] at k2; rw [← e3] at k3
    rw [← e1, ← e2, ← e3]
    have q1 : x1.hn ≤ 100000 := by rw [← hS1.h.len]; have := hs.holders; omega
    have q2 : x1.an ≤ 100000 := by rw [← hS1.a.len]; have := hs.acks; omega
    have q3 : x1.sn ≤ 100000 := by rw [← hS1.s.len]; have := hs.said; omega
    refine ⟨fun e => by simp at e, fun _ => ⟨fun e => by simp at e, fun _ => ⟨fun _ => ⟨fun _ => ⟨fun _ => (Rnd.sameInts_ok hS1.h k1 q1).mono ?_, fun e => ?_⟩, fun e => ?_⟩, fun e => ?_⟩⟩⟩
    · rintro _ H1 ⟨rfl, hH⟩
      rw [hH]
      refine ⟨true, rfl, fun _ => (Rnd.sameInts_ok hS1.a k2 q2).mono ?_, fun e => by cases e⟩
      rintro _ H1 ⟨rfl, hH⟩
      rw [hH]
      refine ⟨true, rfl, fun _ => (Rnd.sameAll_ok hS1.s k3 hI.okS q3).mono ?_, fun e => by cases e⟩
      rintro _ H1 ⟨rfl, hs1⟩
      exact ⟨true, rfl, rfl, hs1⟩
    · simp at e
    · simp at e
    · simp at e
end Go.Agr
