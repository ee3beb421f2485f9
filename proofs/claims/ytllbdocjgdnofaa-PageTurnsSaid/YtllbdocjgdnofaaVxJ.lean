/- The executor's steps of memory. -/
import Derived.Test.YtllbdocjgdnofaaVxI
namespace Go.Vx
section
variable {P : Program} {β : Nat → Option Nat} {st : St} {a : Act} {w : World} {bx : List Box} {H H' H0 : PHeap} {w0 : World} {pd : List (Nat × Obj)}

theorem Sees.lt (hs : Sees H w) {k : Nat} (h : H k ≠ none) : k < w.heap.size := by
  cases e : H k with
  | none => exact absurd e h
  | some o =>
    rcases Nat.lt_or_ge k w.heap.size with hl | hl
    · exact hl
    · have := hs k o e
      rw [Array.getElem?_eq_none hl] at this
      cases this
theorem Nx.refl (hs : Sees H w) : Nx H H w w := ⟨rfl, rfl, rfl, Nat.le_refl _, fun _ _ _ => rfl, fun _ h => .inl h, hs⟩
theorem Nx.trans {H'' : PHeap} {w' w'' : World} (h : Nx H H' w w') (h' : Nx H' H'' w' w'') : Nx H H'' w w'' := by
  refine ⟨h'.os.trans h.os, h'.tape.trans h.tape, h'.output.trans h.output, Nat.le_trans h.size h'.size, fun k hk hn => ?_, fun k hk => ?_, h'.sees⟩
  · have hn' : H' k = none := by
      cases e : H' k with
      | none => rfl
      | some o => rcases h.fresh k (by rw [e]; simp) with h1 | h1
                  · exact absurd hn h1
                  · omega
    rw [h'.keep k (Nat.lt_of_lt_of_le hk h.size) hn', h.keep k hk hn]
  · rcases h'.fresh k hk with h1 | h1
    · exact h.fresh k h1
    · exact .inr (Nat.le_trans h.size h1)
theorem Nx.drew (hs : Sees H w) : Nx H H w w.drew := ⟨rfl, rfl, rfl, Nat.le_refl _, fun _ _ _ => rfl, fun _ h => .inl h, hs⟩
theorem heap_alloc (o : Obj) (k : Nat) (h : k < w.heap.size) : (w.alloc o).heap[k]? = w.heap[k]? := by
  show (w.heap.push o)[k]? = _
  rw [Array.getElem?_push, if_neg (by omega)]
theorem heap_alloc_new (o : Obj) : (w.alloc o).heap[w.heap.size]? = some o := by
  show (w.heap.push o)[w.heap.size]? = _
  simp
theorem Nx.alloc (hs : Sees H w) (o : Obj) : Nx H (H.upd w.heap.size o) w (w.alloc o) := by
  refine ⟨rfl, rfl, rfl, by simp, fun k hk _ => heap_alloc o k hk, fun k hk => ?_, fun k o' hk => ?_⟩
  · by_cases e : k = w.heap.size
    · right; omega
    · left; simpa [PHeap.upd, e] using hk
  · by_cases e : k = w.heap.size
    · subst e
      simp only [PHeap.upd, if_true] at hk
      rw [heap_alloc_new, hk]
    · have hk' : H k = some o' := by simpa [PHeap.upd, e] using hk
      rw [heap_alloc o k (hs.lt (by rw [hk']; simp))]
      exact hs k o' hk'
theorem heap_setRow (g : Nat) (cs : Array Value) (k : Nat) (h : k ≠ g) : (w.setRow g cs).heap[k]? = w.heap[k]? := by
  simp only [World.setRow, Array.getElem?_modify]
  rw [if_neg (by omega)]
theorem Nx.setRow (hs : Sees H w) {g : Nat} {c c' : Array Value} {e : TypeId} {fz : Nat × Nat} (hg : H g = some (.cells c e fz)) : Nx H (H.upd g (.cells c' e fz)) w (w.setRow g c') := by
  have hlt := hs.lt (k := g) (by rw [hg]; simp)
  refine ⟨rfl, rfl, rfl, by simp [World.setRow], fun k hk hn => heap_setRow g c' k (fun e => by subst e; rw [hg] at hn; cases hn), fun k hk => ?_, fun k o hk => ?_⟩
  · by_cases e : k = g
    · left; rw [e, hg]; simp
    · left; simpa [PHeap.upd, e] using hk
  · by_cases e : k = g
    · subst e
      simp only [PHeap.upd, if_true, Option.some.injEq] at hk
      rw [setRow_heap w k c c' _ fz (hs k _ hg), hk]
    · have hk' : H k = some o := by simpa [PHeap.upd, e] using hk
      rw [heap_setRow g c' k e]
      exact hs k o hk'
theorem run_storeCells_gen (P : Program) (g o : Nat) (t : TypeId) (lo hi : Nat) : ∀ (vs : List Value) (i : Nat) (cur : Array Value) (w : World), w.heap[g]? = some (.cells cur t (lo, hi)) → (∀ j, j < vs.length → ¬ (lo ≤ o + i + j ∧ o + i + j < hi)) → o + i + vs.length ≤ cur.size → (∀ v ∈ vs, v.oneCell' = true) →
    (storeCells ⟨g, o, none⟩ vs i).run P w = .ok () (w.setRow g (cur.toList.take (o + i) ++ vs ++ cur.toList.drop (o + i + vs.length)).toArray)
  | [], i, cur, w, hg, _, _, _ => by
    simp only [storeCells, List.append_nil, List.length_nil, Nat.add_zero, List.take_append_drop, Array.toArray_toList]
    rw [setRow_self w g cur t _ hg]
    rfl
  | v :: rest, i, cur, w, hg, hfz, hl, h1 => by
    have hi' : o + i < cur.size := by simp at hl; omega
    have hcell : w.cell? ⟨g, o + i, none⟩ = some cur[o + i] := by simp [World.cell?, hg, hi']
    have hfro : w.frozen? ⟨g, o + i, none⟩ = false := by
      have := hfz 0 (by simp)
      simp only [World.frozen?, hg, Bool.and_eq_false_iff, decide_eq_false_iff_not]
      omega
    have hst : (store ((⟨g, o, none⟩ : Addr).add i) v).run P w = .ok () (w.setRow g (cur.setIfInBounds (o + i) v)) := by
      rw [add_none, run_store P w _ v _ (h1 v (by simp)), hcell]
      simp [hfro, setCell_eq_setRow w g (o + i) cur t _ v hg]
    have ih := run_storeCells_gen P g o t lo hi rest (i + 1) (cur.setIfInBounds (o + i) v) (w.setRow g (cur.setIfInBounds (o + i) v)) (setRow_heap w g cur _ t _ hg) (fun j hj => by
      have := hfz (j + 1) (by simp; omega)
      rwa [show o + i + (j + 1) = o + (i + 1) + j by omega] at this) (by simp at hl ⊢; omega) (fun x hx => h1 x (by simp [hx]))
    simp only [storeCells, Sem.run_bind, hst, Result.andThen_ok, ih, setRow_setRow]
    congr 3
    have e := list_seg_step cur.toList (o + i) v rest (by simp at hl ⊢; omega)
    simpa [Array.toList_setIfInBounds, Nat.add_assoc] using e
theorem okCell_eq (v : Value) : okCell v = v.oneCell' := by cases v <;> rfl
theorem run_storeVar_gen {t : TypeId} {v : Value} {g o : Nat} {e : TypeId} {lo hi : Nat} {cur : Array Value} (hn : sizeT P t = some (cellsL v).length) (hg : w.heap[g]? = some (.cells cur e (lo, hi))) (hf : ∀ j, j < (cellsL v).length → ¬ (lo ≤ o + j ∧ o + j < hi))
    (hl : o + (cellsL v).length ≤ cur.size) (hc : ∀ u ∈ cellsL v, okCell u = true) : (storeVar t ⟨g, o, none⟩ v).run P w = .ok () (w.setRow g (over cur.toList o (cellsL v)).toArray) := by
  have h1 := run_storeCells_gen P g o e lo hi (cellsL v) 0 cur w hg (by simpa using hf) (by simpa using hl) (fun u hu => by rw [← okCell_eq]; exact hc u hu)
  have h2 : v.cells.size = (cellsL v).length := cells_size v
  simp only [storeVar, Sem.run_bind, run_size hn, Result.andThen_ok, h2, ne_eq, not_true_eq_false, if_false, cells_toList]
  simpa [over] using h1

/-- A loop over a function leaves a mark among the calls that are put off; its block has no call in it. -/
structure MarkAt (H : PHeap) (w0 w : World) (d : Deferred) : Prop where
  out : ∃ D, d = { target := .collected D, args := #[] } ∧ w.heap[D]? = some (.deferred (some [])) ∧ H D = none ∧ w0.heap.size ≤ D
theorem MarkAt.keep {w0 w' : World} {d : Deferred} (h : MarkAt H w0 w d) (hh : ∀ D, w.heap[D]? = some (.deferred (some [])) → H D = none → w'.heap[D]? = w.heap[D]? ∧ H' D = none) : MarkAt H' w0 w' d := by
  obtain ⟨D, e, h1, h2, h3⟩ := h.out
  obtain ⟨k1, k2⟩ := hh D h1 h2
  exact ⟨D, e, by rw [k1]; exact h1, k2, h3⟩
theorem Nx.nloc {w' : World} (hn : Nx H H' w w') {D : Nat} (hlt : D < w.heap.size) (h : H D = none) : H' D = none := by
  cases e : H' D with
  | none => rfl
  | some o =>
    rcases hn.fresh D (by rw [e]; simp) with h1 | h1
    · exact absurd h h1
    · omega
theorem MarkAt.step {w0 w' : World} {d : Deferred} (h : MarkAt H w0 w d) (hn : Nx H H' w w') : MarkAt H' w0 w' d :=
  h.keep fun D h1 h2 => have hlt := (Array.getElem?_eq_some_iff.1 h1).1; ⟨hn.keep D hlt h2, hn.nloc hlt h2⟩
/-- A block that is made already, but not yet told of. -/
structure PendAt (H : PHeap) (w0 : World) (β : Nat → Option Nat) (w : World) (p : Nat × Obj) : Prop where
  at_ : w.heap[p.1]? = some p.2
  unk : H p.1 = none
  old : w0.heap.size ≤ p.1
  box : ∀ i, β i ≠ some p.1
  cells : ∃ c e, p.2 = .cells c e (0, 0)
theorem PendAt.lt {p : Nat × Obj} (h : PendAt H w0 β w p) : p.1 < w.heap.size := (Array.getElem?_eq_some_iff.1 h.at_).1
/-- What is kept of the state and the world. -/
structure J (pd : List (Nat × Obj)) (H0 : PHeap) (w0 : World) (β : Nat → Option Nat) (st : St) (H : PHeap) (a : Act) (w : World) : Prop where
  tm : TmOk β st a
  bx : BxOk β st.bx w
  dom : ∀ i, st.bx.length ≤ i → β i = none
  inj : ∀ i j g, β i = some g → β j = some g → i = j
  nloc : ∀ i g, β i = some g → H g = none
  old : ∀ i g, β i = some g → w0.heap.size ≤ g
  nx : Nx H0 H w0 w
  dfr : (∀ d ∈ a.defers, MarkAt H w0 w d) ∧ a.defers.Nodup
  pnd : ∀ p ∈ pd, PendAt H w0 β w p
structure Ext (β : Nat → Option Nat) (bx : List Box) (β' : Nat → Option Nat) (bx' : List Box) : Prop where
  beta : ∀ i g, β i = some g → β' i = some g
  box : ∀ (i : Nat) (c : Box), bx[i]? = some c → ∃ c' : Box, bx'[i]? = some c' ∧ c'.ty = c.ty ∧ c'.fz = c.fz ∧ c'.cells.length = c.cells.length ∧ (c.fz = true → c'.cells = c.cells)
theorem Ext.refl (β : Nat → Option Nat) (bx : List Box) : Ext β bx β bx := ⟨fun _ _ h => h, fun _ c h => ⟨c, h, rfl, rfl, rfl, fun _ => rfl⟩⟩
theorem Ext.len {β' : Nat → Option Nat} {bx bx' : List Box} (h : Ext β bx β' bx') : bx.length ≤ bx'.length := by
  rcases Nat.lt_or_ge bx'.length bx.length with hl | hl
  · obtain ⟨c', hc', _⟩ := h.box bx'.length bx[bx'.length] (List.getElem?_eq_getElem hl)
    rw [List.getElem?_eq_none (Nat.le_refl _)] at hc'
    cases hc'
  · exact hl
theorem Ext.trans {β' β'' : Nat → Option Nat} {bx' bx'' : List Box} (h : Ext β bx β' bx') (h' : Ext β' bx' β'' bx'') : Ext β bx β'' bx'' := by
  refine ⟨fun i g hg => h'.beta i g (h.beta i g hg), fun i c hc => ?_⟩
  obtain ⟨c1, h1, h2, h3, h4, h5⟩ := h.box i c hc
  obtain ⟨c2, k1, k2, k3, k4, k5⟩ := h'.box i c1 h1
  exact ⟨c2, k1, k2.trans h2, k3.trans h3, k4.trans h4, fun hf => (k5 (by rw [h3]; exact hf)).trans (h5 hf)⟩
theorem conc_mono {β' : Nat → Option Nat} (h : ∀ i g, β i = some g → β' i = some g) {sv : SV} {y : Value} (hc : sv.conc β y) : sv.conc β' y := by
  cases sv <;> try exact hc
  obtain ⟨g, hg, hy⟩ := hc
  exact ⟨g, h _ _ hg, hy⟩
theorem TmOk.mono {β' : Nat → Option Nat} (h : ∀ i g, β i = some g → β' i = some g) (ht : TmOk β st a) : TmOk β' st a := ⟨ht.size, fun t sv hs => conc_mono h (ht.at_ t sv hs)⟩
theorem J.ltw (h : J pd H0 w0 β st H a w) {i g : Nat} (hi : β i = some g) : g < w.heap.size := by
  rcases Nat.lt_or_ge i st.bx.length with hl | hl
  · obtain ⟨g', hg', hh⟩ := h.bx i st.bx[i] (List.getElem?_eq_getElem hl)
    rw [hi] at hg'
    obtain rfl := Option.some.inj hg'
    exact (Array.getElem?_eq_some_iff.1 hh).1
  · rw [h.dom i hl] at hi; cases hi
theorem J.step {w' : World} (h : J pd H0 w0 β st H a w) (hn : Nx H H' w w') : J pd H0 w0 β st H' a w' := by
  refine ⟨h.tm, fun i c hc => ?_, h.dom, h.inj, fun i g hi => ?_, h.old, h.nx.trans hn, ⟨fun d hd => (h.dfr.1 d hd).step hn, h.dfr.2⟩, fun p hp => let g := h.pnd p hp; ⟨by rw [hn.keep p.1 g.lt g.unk]; exact g.at_, hn.nloc g.lt g.unk, g.old, g.box, g.cells⟩⟩
  · obtain ⟨g, hg, hh⟩ := h.bx i c hc
    exact ⟨g, hg, by rw [hn.keep g (h.ltw hg) (h.nloc i g hg)]; exact hh⟩
  · cases e : H' g with
    | none => rfl
    | some o =>
      rcases hn.fresh g (by rw [e]; simp) with h1 | h1
      · exact absurd (h.nloc i g hi) h1
      · have := h.ltw hi; omega
theorem J.sees (h : J pd H0 w0 β st H a w) : Sees H w := h.nx.sees
theorem J.put (h : J pd H0 w0 β st H a w) (dst : Option Tmp) {sv : SV} {y : Value} (hc : sv.conc β y) : J pd H0 w0 β (st.put dst sv) H (a.put dst y) w := by
  refine ⟨h.tm.put dst hc, by rw [put_bx]; exact h.bx, by rw [put_bx]; exact h.dom, h.inj, h.nloc, h.old, h.nx, by rw [put_defers]; exact h.dfr, h.pnd⟩
theorem J.kbAt (h : J pd H0 w0 β st H a w) {x : Operand} {b : Bool} (hx : a.eval x = .bool b) : J pd H0 w0 β (st.kbAt x b) H a w :=
  ⟨h.tm.kbAt hx, by rw [kbAt_bx]; exact h.bx, by rw [kbAt_bx]; exact h.dom, h.inj, h.nloc, h.old, h.nx, h.dfr, h.pnd⟩
theorem J.alloc (h : J pd H0 w0 β st H a w) (cells : List Value) (t : TypeId) :
    ∃ β', Ext β st.bx β' (st.bx ++ [⟨cells, t, false⟩]) ∧ β' st.bx.length = some w.heap.size ∧ J pd H0 w0 β' { st with bx := st.bx ++ [⟨cells, t, false⟩] } H a (w.alloc (.cells cells.toArray t (0, 0))) := by
  have hbe : ∀ i g, β i = some g → (if i = st.bx.length then some w.heap.size else β i) = some g := fun i g hg => by
    rw [if_neg (fun e => by rw [h.dom i (by omega)] at hg; cases hg)]; exact hg
  refine ⟨fun i => if i = st.bx.length then some w.heap.size else β i, ⟨hbe, fun i c hc => ?_⟩, by simp, ⟨h.tm.mono hbe |>.bx _, fun i c hc => ?_, fun i hi => ?_, fun i j g hi hj => ?_, fun i g hi => ?_, fun i g hi => ?_, ?_, ⟨fun d hd => (h.dfr.1 d hd).keep fun D h1 h2 => ⟨heap_alloc _ _ (Array.getElem?_eq_some_iff.1 h1).1, h2⟩, h.dfr.2⟩, fun p hp => let g := h.pnd p hp; ⟨by rw [heap_alloc _ _ g.lt]; exact g.at_, g.unk, g.old, fun i hi => ?_, g.cells⟩⟩⟩
  · have hi : i < st.bx.length := (List.getElem?_eq_some_iff.1 hc).1
    exact ⟨c, by rw [List.getElem?_append_left hi]; exact hc, rfl, rfl, rfl, fun _ => rfl⟩
  · by_cases e : i = st.bx.length
    · subst e
      simp at hc
      subst hc
      exact ⟨_, if_pos rfl, heap_alloc_new _⟩
    · have hi : i < st.bx.length := by
        have := (List.getElem?_eq_some_iff.1 hc).1
        simp at this; omega
      rw [List.getElem?_append_left hi] at hc
      obtain ⟨g, hg, hh⟩ := h.bx i c hc
      exact ⟨g, hbe i g hg, by rw [heap_alloc _ _ (h.ltw hg)]; exact hh⟩
  · simp only [List.length_append, List.length_singleton] at hi
    rw [if_neg (by omega)]
    exact h.dom i (by omega)
  · by_cases e1 : i = st.bx.length <;> by_cases e2 : j = st.bx.length
    · omega
    · rw [if_pos e1] at hi; rw [if_neg e2] at hj
      obtain rfl := Option.some.inj hi
      exact absurd (h.ltw hj) (Nat.lt_irrefl _)
    · rw [if_neg e1] at hi; rw [if_pos e2] at hj
      obtain rfl := Option.some.inj hj
      exact absurd (h.ltw hi) (Nat.lt_irrefl _)
    · rw [if_neg e1] at hi; rw [if_neg e2] at hj
      exact h.inj i j g hi hj
  · by_cases e : i = st.bx.length
    · rw [if_pos e] at hi
      obtain rfl := Option.some.inj hi
      cases hh : H w.heap.size with
      | none => rfl
      | some o => have := h.sees.lt (k := w.heap.size) (by rw [hh]; simp); omega
    · rw [if_neg e] at hi; exact h.nloc i g hi
  · by_cases e : i = st.bx.length
    · rw [if_pos e] at hi
      obtain rfl := Option.some.inj hi
      exact h.nx.size
    · rw [if_neg e] at hi; exact h.old i g hi
  · refine ⟨h.nx.os, h.nx.tape, h.nx.output, by simpa using Nat.le_succ_of_le h.nx.size, fun k hk hn => ?_, h.nx.fresh, fun k o hk => ?_⟩
    · rw [heap_alloc _ _ (Nat.lt_of_lt_of_le hk h.nx.size)]; exact h.nx.keep k hk hn
    · rw [heap_alloc _ _ (h.sees.lt (by rw [hk]; simp))]; exact h.sees k o hk
  · by_cases e : i = st.bx.length
    · rw [if_pos e] at hi
      have := g.lt
      injection hi with hi
      omega
    · rw [if_neg e] at hi; exact g.box i hi
/-- A store into a box. -/
theorem J.store (h : J pd H0 w0 β st H a w) {b g : Nat} {c : Box} (hb : st.bx[b]? = some c) (hg : β b = some g) (hf : c.fz = false) (l : List Value) (hl : l.length = c.cells.length) :
    Ext β st.bx β (setNth st.bx b { c with cells := l }) ∧ J pd H0 w0 β { st with bx := setNth st.bx b { c with cells := l } } H a (w.setRow g l.toArray) := by
  obtain ⟨g', hg', hh⟩ := h.bx b c hb
  rw [hg] at hg'
  obtain rfl := Option.some.inj hg'
  have hlt : b < st.bx.length := (List.getElem?_eq_some_iff.1 hb).1
  refine ⟨⟨fun _ _ hg => hg, fun i c' hc => ?_⟩, ⟨h.tm.bx _, fun i c' hc => ?_, fun i hi => h.dom i (by simpa [setNth] using hi), h.inj, h.nloc, h.old, ?_, ⟨fun d hd => (h.dfr.1 d hd).keep fun D h1 h2 => ⟨heap_setRow g _ D (fun e => by rw [e, hh] at h1; cases h1), h2⟩, h.dfr.2⟩, fun p hp => let q := h.pnd p hp; ⟨by rw [heap_setRow g _ _ (fun e => q.box b (by rw [hg, e]))]; exact q.at_, q.unk, q.old, q.box, q.cells⟩⟩⟩
  · by_cases e : b = i
    · subst e
      rw [hb] at hc
      obtain rfl := Option.some.inj hc
      exact ⟨{ c with cells := l }, by simp [setNth, hlt], rfl, rfl, hl, fun hx => by rw [hf] at hx; cases hx⟩
    · exact ⟨c', by simp [setNth, List.getElem?_set_ne e, hc], rfl, rfl, rfl, fun _ => rfl⟩
  · by_cases e : b = i
    · subst e
      simp [setNth, hlt] at hc
      subst hc
      exact ⟨g, hg, setRow_heap w g _ _ _ _ hh⟩
    · simp only [setNth, List.getElem?_set_ne e] at hc
      obtain ⟨g', hg', hh'⟩ := h.bx i c' hc
      exact ⟨g', hg', by rw [heap_setRow g _ _ (fun e' => e (h.inj b i g hg (by rw [hg', e'])))]; exact hh'⟩
  · refine ⟨h.nx.os, h.nx.tape, h.nx.output, by simpa [World.setRow] using h.nx.size, fun k hk hn => ?_, h.nx.fresh, fun k o hk => ?_⟩
    · rw [heap_setRow g _ k (by have := h.old b g hg; omega)]; exact h.nx.keep k hk hn
    · rw [heap_setRow g _ k (fun e => by subst e; rw [h.nloc b _ hg] at hk; cases hk)]; exact h.sees k o hk
end
end Go.Vx
