/- The executor's regions whose order is drawn, with new blocks among what may come up: a block is made at any time, and told of where the list of operations has it. -/
import Derived.Test.YtllbdocjgdnofaaVxM
namespace Go.Vx
section
variable {P : Program} {β : Nat → Option Nat} {st : St} {a : Act} {w : World} {H H' H0 : PHeap} {w0 : World} {pd : List (Nat × Obj)}
  {Q : Exit → Act → World → Prop} {ops : Array Oper} {cx : Cx}

theorem bool_not {b c : Bool} (h : b ≠ c) : b = !c := by cases b <;> cases c <;> simp_all
/-! ### One such operation -/
def fval (o : Oper) (k : Nat) : Value :=
  match o.op with
  | .buildSlice _ len _ => .slice (some ⟨k, 0, none⟩) len len
  | _ => .pointer (some ⟨k, 0, none⟩)
def FRun (P : Program) (a : Act) (o : Oper) (b : Obj) : Prop := ∀ w : World, (execOp a.eval o).run P w = .ok (.value (fval o w.heap.size)) (w.alloc b)
theorem fcells_run {o : Oper} {c : List Value} {t : TypeId} (ht : TmOk β st a) (h : fcells P st o = some (c, t)) : FRun P a o (.cells c.toArray t (0, 0)) := by
  obtain ⟨dst, op, type, pos, after, guard⟩ := o
  intro w
  unfold fcells at h
  cases op <;> simp only at h <;> try (cases h; done)
  case alloc t' =>
    split at h
    · rename_i z hz
      simp only [Option.some.injEq, Prod.mk.injEq] at h
      obtain ⟨rfl, rfl⟩ := h
      simp [execOp, Instr.alloc, run_zero hz, newVar, newRow, cells_arr, fval]
    · cases h
  case box t' x =>
    split at h
    · rename_i v hv
      simp only [Option.some.injEq, Prod.mk.injEq] at h
      obtain ⟨rfl, rfl⟩ := h
      simp [execOp, Instr.box, ht.val hv, newVar, newRow, cells_arr, fval]
    · cases h
  case buildSlice t' len parts =>
    split at h
    · rename_i e ps hu hps
      split at h
      · rename_i n z hn hz
        split at h
        · rename_i cells h1 h2 h3
          simp only [Option.some.injEq, Prod.mk.injEq] at h
          obtain ⟨rfl, rfl⟩ := h
          have h1 := of_decide_eq_true h1
          have h2 := of_decide_eq_true h2
          have e1 : (parts.map fun (i, x) => (i, a.eval x)).toList = ps := by
            have := ht.partVals hps
            rw [← this]; simp
          have e2 : ((Array.range (len * n)).map fun i => (cellsL z).toArray[i % n]!) = ((List.replicate len (cellsL z)).flatten).toArray := by
            apply Array.ext'
            rw [← flatten_range (cellsL z) n h2 len]
            simp
          have e3 := fill_eq (fun i => some (i * n, n)) ps ((List.replicate len (cellsL z)).flatten).toArray cells (by simpa using h3)
          have e4 : ¬ (len * n > 2 ^ 24) := by omega
          have hsz : z.cells = (cellsL z).toArray := (cells_arr z).symm
          have hsz' : z.cells.size = n := by rw [cells_size]; exact h2
          by_cases h0 : len * n = 0
          · have e5 : ((List.replicate len (cellsL z)).flatten) = [] := by
              rw [← flatten_range (cellsL z) n h2 len, h0]; rfl
            rw [e5] at e3
            have e6 : ∀ z : Array Value, (Array.map (fun x => z[x % z.size]!) (Array.range 0)) = #[] := fun z => by apply Array.ext'; simp
            have e7 : ¬ ((0 : Nat) > 2 ^ 24) := by omega
            simp only [execOp, Instr.buildSlice, Sem.run_bind, run_und hu, Result.andThen_ok, run_size hn, h0, if_neg e7, if_true, e1, e6, e3, Sem.run_pure]
            simp [newRow, fval]
          · simp only [execOp, Instr.buildSlice, Sem.run_bind, run_und hu, Result.andThen_ok, run_size hn, e4, if_false, Sem.run_pure, h0, e1, run_zero hz]
            rw [hsz', hsz, e2, e3]
            simp [newRow, fval]
        · cases h
      · cases h
    · cases h
theorem fl_eff {lc : Bool} {K : SV → St → PHeap → Prop} {o : Oper} (hf : isFl0 cx o = true) (h : vEff cx P lc st H o K) :
    ∃ c t, fcells P st o = some (c, t) ∧ ∀ b, H b = none → K (.v (fval o b)) st (H.upd b (.cells c.toArray t (0, 0))) := by
  obtain ⟨dst, op, type, pos, after, guard⟩ := o
  unfold vEff at h
  unfold isFl0 at hf
  cases op <;> simp only at h hf <;> try (cases hf; done)
  case alloc t' =>
    split at h
    · rename_i z hz
      unfold vNew at h
      rw [if_pos hf] at h
      exact ⟨cellsL z, t', by simp [fcells, hz], h⟩
    · cases h
  case box t' x =>
    split at h
    · rename_i v hv
      obtain ⟨h, _⟩ := okThen_get h hv
      unfold vNew at h
      rw [if_pos hf] at h
      exact ⟨cellsL v, t', by simp [fcells, hv], h⟩
    · cases h
  case buildSlice t' len parts =>
    split at h
    · rename_i e ps hu hps
      split at h
      · rename_i n z hn hz
        split at h
        · rename_i cells h1 h2 h3
          exact ⟨cells, e, by simp only [fcells, hu, hps, hn, hz, h1, h2, h3], h⟩
        · cases h
      · cases h
    · cases h
theorem FRun.det {o : Oper} {b c : Obj} (h : FRun P a o b) (h' : FRun P a o c) (w : World) : b = c := by
  have h1 := h w
  rw [h' w] at h1
  have h2 : (w.alloc c).heap[w.heap.size]? = (w.alloc b).heap[w.heap.size]? := by
    injection h1 with _ h1
    rw [h1]
  rw [heap_alloc_new, heap_alloc_new] at h2
  injection h2 with h2
  exact h2.symm
theorem J.float (h : J pd H0 w0 β st H a w) {d : Tmp} (hu : ∀ sv, st.tm[d]? = some sv → sv = .unk) (c : Array Value) (e : TypeId) (v : Value) :
    J ((w.heap.size, .cells c e (0, 0)) :: pd) H0 w0 β st H (a.put (some d) v) (w.alloc (.cells c e (0, 0))) := by
  refine ⟨⟨by rw [put_size]; exact h.tm.size, fun t sv hs => ?_⟩, fun i b hb => ?_, h.dom, h.inj, h.nloc, h.old, ⟨h.nx.os, h.nx.tape, h.nx.output, by simpa using Nat.le_succ_of_le h.nx.size, fun k hk hn => ?_, h.nx.fresh, fun k o hk => ?_⟩,
    ⟨fun q hq => ?_, by rw [put_defers]; exact h.dfr.2⟩, fun p hp => ?_⟩
  · by_cases e : t = d
    · subst e
      rw [hu sv hs]; trivial
    · rw [put_other (by simpa using fun e' => e e'.symm)]
      exact h.tm.at_ t sv hs
  · obtain ⟨g, hg, hh⟩ := h.bx i b hb
    exact ⟨g, hg, by rw [heap_alloc _ _ (h.ltw hg)]; exact hh⟩
  · rw [heap_alloc _ _ (Nat.lt_of_lt_of_le hk h.nx.size)]; exact h.nx.keep k hk hn
  · rw [heap_alloc _ _ (h.sees.lt (by rw [hk]; simp))]; exact h.sees k o hk
  · rw [put_defers] at hq
    exact (h.dfr.1 q hq).keep fun D h1 h2 => ⟨heap_alloc _ _ (Array.getElem?_eq_some_iff.1 h1).1, h2⟩
  · rcases List.mem_cons.1 hp with rfl | hp
    · refine ⟨heap_alloc_new _, ?_, h.nx.size, fun i hi => ?_, c, e, rfl⟩
      · cases hh : H w.heap.size with
        | none => rfl
        | some o => have := h.sees.lt (k := w.heap.size) (by rw [hh]; simp); omega
      · exact absurd (h.ltw hi) (Nat.lt_irrefl _)
    · have g := h.pnd p hp
      exact ⟨by rw [heap_alloc _ _ g.lt]; exact g.at_, g.unk, g.old, g.box, g.cells⟩
theorem J.take {pd' : List (Nat × Obj)} (h : J pd H0 w0 β st H a w) {k : Nat} {o : Obj} (hp : (k, o) ∈ pd) (hs : ∀ q ∈ pd', q ∈ pd ∧ q.1 ≠ k) {d : Tmp} {v : Value} (hv : ∀ x, a.tmps[d]? = some x → x = v) :
    J pd' H0 w0 β (st.put (some d) (.v v)) (H.upd k o) a w := by
  have g := h.pnd _ hp
  obtain ⟨gat, gunk, gold, gbox, c, e, gc⟩ := g
  simp only at gat gunk gold gbox gc
  subst gc
  refine ⟨⟨by simpa [St.put] using h.tm.size, fun t sv hsv => ?_⟩, by rw [put_bx]; exact h.bx, by rw [put_bx]; exact h.dom, h.inj, fun i g hi => ?_, h.old, ⟨h.nx.os, h.nx.tape, h.nx.output, h.nx.size, h.nx.keep, fun q hq => ?_, fun q o' hq => ?_⟩,
    ⟨fun q hq => (h.dfr.1 q hq).keep fun D h1 h2 => ⟨rfl, ?_⟩, h.dfr.2⟩, fun p hp' => ?_⟩
  · simp only [St.put, List.getElem?_set] at hsv
    by_cases e : d = t
    · subst e
      rw [if_pos rfl] at hsv
      split at hsv
      · rename_i hlt
        obtain rfl := Option.some.inj hsv
        have hlt' : d < a.tmps.size := by rw [h.tm.size]; exact hlt
        have := hv _ (Array.getElem?_eq_getElem hlt')
        show a.tmps.getD d undef = v
        rw [Array.getD_eq_getD_getElem?, Array.getElem?_eq_getElem hlt']
        exact this
      · cases hsv
    · rw [if_neg e] at hsv
      exact h.tm.at_ t sv hsv
  · have : g ≠ k := fun e => gbox i (by rw [hi, e])
    simp only [PHeap.upd, if_neg this]
    exact h.nloc i g hi
  · by_cases e : q = k
    · right; rw [e]; exact gold
    · exact h.nx.fresh q (by simpa [PHeap.upd, e] using hq)
  · by_cases e : q = k
    · subst e
      simp only [PHeap.upd, if_true] at hq
      rw [← hq]; exact gat
    · exact h.sees q o' (by simpa [PHeap.upd, e] using hq)
  · have : D ≠ k := fun e => by rw [e, gat] at h1; cases h1
    simp only [PHeap.upd, if_neg this]; exact h2
  · obtain ⟨h1, h2⟩ := hs p hp'
    have g := h.pnd p h1
    exact ⟨g.at_, by simp only [PHeap.upd, if_neg h2]; exact g.unk, g.old, g.box, g.cells⟩

/-! ### What is still to come -/
structure Rel (ops : Array Oper) (y : Array Bool) (u : List Nat) : Prop where
  size : y.size = ops.size
  at_ : ∀ j, j < ops.size → y.getD j true = !u.contains j
theorem Rel.lt {y : Array Bool} {u : List Nat} (h : Rel ops y u) {j : Nat} (hj : y.getD j true = false) : j < ops.size := by
  rcases Nat.lt_or_ge j ops.size with hl | hl
  · exact hl
  · rw [Array.getD_eq_getD_getElem?, Array.getElem?_eq_none (by rw [h.size]; exact hl)] at hj; cases hj
theorem Rel.low {y : Array Bool} {u : List Nat} (h : Rel ops y u) {j : Nat} (hj : y.getD j true = false) : j ∈ u := by
  have := h.at_ j (h.lt hj)
  rw [hj] at this
  simpa using this.symm
theorem Rel.high {y : Array Bool} {u : List Nat} (h : Rel ops y u) {j : Nat} (hj : y.getD j false = true) : j < ops.size ∧ j ∉ u := by
  have hl : j < ops.size := by
    rcases Nat.lt_or_ge j ops.size with hl | hl
    · exact hl
    · rw [Array.getD_eq_getD_getElem?, Array.getElem?_eq_none (by rw [h.size]; exact hl)] at hj; cases hj
  refine ⟨hl, fun hm => ?_⟩
  have := h.at_ j hl
  have hly : j < y.size := by rw [h.size]; exact hl
  rw [Array.getD_eq_getD_getElem?, Array.getElem?_eq_getElem hly] at this hj
  simp at this hj
  rw [hj] at this
  simp [hm] at this
theorem readyF_iff {l : List Nat} {f : Nat} : readyF ops l f = true ↔ ∃ o, ops[f]? = some o ∧ ∀ p ∈ predsOf o, p < ops.size ∧ p ∉ l := by
  unfold readyF
  split
  · rename_i o ho
    rw [List.all_eq_true]
    constructor
    · intro h
      refine ⟨o, by first | exact ho | rfl, fun p hp => ?_⟩
      simpa using h p hp
    · rintro ⟨o', h1, h2⟩ p hp
      have e : o' = o := by first | exact (Option.some.inj h1).symm | (rw [ho] at h1; exact (Option.some.inj h1).symm)
      subst e
      simpa using h2 p hp
  · rename_i ho
    exact ⟨fun h => (by cases h), fun ⟨o', h1, _⟩ => (by first | (cases h1; done) | (rw [ho] at h1; cases h1))⟩
theorem rel_ready {y : Array Bool} {u : List Nat} (h : Rel ops y u) {j : Nat} : j ∈ Region.ready .any ops y ↔ j ∈ u ∧ readyF ops u j = true := by
  rw [mem_ready, readyF_iff]
  constructor
  · rintro ⟨h1, o, ho, h2⟩
    refine ⟨h.low h1, o, ho, fun p hp => ?_⟩
    obtain ⟨e, he, hb, rfl⟩ := predsOf_mem hp
    exact h.high (h2 e he hb)
  · rintro ⟨h1, o, ho, h2⟩
    have hl := (Array.getElem?_eq_some_iff.1 ho).1
    refine ⟨by rw [h.at_ j hl]; simpa using h1, o, ho, fun e he hb => ?_⟩
    obtain ⟨g1, g2⟩ := h2 _ (mem_preds he hb)
    have := h.at_ _ g1
    have hly : e.on < y.size := by rw [h.size]; exact g1
    rw [Array.getD_eq_getD_getElem?, Array.getElem?_eq_getElem hly] at this ⊢
    simpa [g2] using this
theorem Rel.set {y : Array Bool} {u u' : List Nat} (h : Rel ops y u) {j : Nat} (hu : ∀ x, x ∈ u' ↔ x ∈ u ∧ x ≠ j) : Rel ops (y.setIfInBounds j true) u' := by
  refine ⟨by simp [h.size], fun x hx => ?_⟩
  have e : u'.contains x = (u.contains x && !(x == j)) := by
    rw [Bool.eq_iff_iff]
    simp [hu]
  by_cases hxj : j = x
  · subst hxj
    have hlt : j < y.size := by rw [h.size]; exact hx
    rw [e]
    simp [Array.getD_eq_getD_getElem?, Array.getElem?_setIfInBounds, hlt]
  · rw [getD_set_ne true hxj, h.at_ x hx, e]
    have : ¬ x = j := fun e => hxj e.symm
    simp [this]
def out (l : List Nat) (S : List Nat) : List Nat := l.filter fun j => !S.contains j
theorem mem_out {l S : List Nat} {x : Nat} : x ∈ out l S ↔ x ∈ l ∧ x ∉ S := by simp [out, List.mem_filter]
theorem out_cons {i : Nat} {is S : List Nat} (h : i ∉ S) : out (i :: is) S = i :: out is S := by
  unfold out; rw [List.filter_cons_of_pos (by simpa using h)]
theorem out_skip {i : Nat} {is S : List Nat} (h : i ∈ S) : out (i :: is) S = out is S := by
  unfold out; rw [List.filter_cons_of_neg (by simpa using h)]
theorem out_len {l S : List Nat} {j : Nat} (hd : l.Nodup) (hj : j ∈ l) (hn : j ∉ S) : (out l (j :: S)).length + 1 = (out l S).length := by
  induction l with
  | nil => cases hj
  | cons x xs ih =>
    have hd' := List.nodup_cons.1 hd
    by_cases e : x = j
    · subst e
      rw [out_skip (by simp), out_cons hn, List.length_cons]
      congr 1
      unfold out
      congr 1
      refine List.filter_congr fun y hy => ?_
      have : y ≠ x := fun e => hd'.1 (e ▸ hy)
      simp [this]
    · have hj' : j ∈ xs := by
        rcases List.mem_cons.1 hj with h | h
        · exact absurd h.symm e
        · exact h
      have := ih hd'.2 hj'
      by_cases hx : x ∈ S
      · rw [out_skip (by simp [hx]), out_skip hx]; exact this
      · rw [out_cons (by simp [e, hx]), out_cons hx, List.length_cons, List.length_cons]; omega
theorem mem_written {l : List Nat} {j : Nat} {d : Tmp} (hj : j ∈ l) (hd : dstOf ops j = some d) : d ∈ writtenAt ops l := by
  induction l with
  | nil => cases hj
  | cons x xs ih =>
    simp only [writtenAt]
    rcases List.mem_cons.1 hj with rfl | hj
    · rw [hd]; simp
    · have := ih hj
      split
      · exact List.mem_cons_of_mem _ this
      · exact this
abbrev Pd := Nat × Nat × Obj
structure FOp (cx : Cx) (P : Program) (ops : Array Oper) (f : Nat) (o : Oper) (d : Tmp) : Prop where
  at_ : ops[f]? = some o
  fl0 : isFl0 cx o = true
  eff : quietOp P o = false
  guard : o.guard = none
  dst : o.dst = some d
  self : d ∉ o.looksAt ops
  uniq : ∀ j, j ≠ f → dstOf ops j ≠ some d
  is_ : isFloat cx P ops f = true
theorem FOp.of {f : Nat} (h : isFloat cx P ops f = true) : ∃ o d, FOp cx P ops f o d := by
  have h0 := h
  unfold isFloat at h
  split at h
  · rename_i o ho
    simp only [Bool.and_eq_true, Bool.not_eq_true', List.all_eq_true, Bool.or_eq_true, beq_iff_eq, bne_iff_ne] at h
    obtain ⟨⟨⟨⟨⟨h1, h2⟩, h3⟩, h4⟩, h5⟩, _⟩ := h
    split at h4
    · rename_i d hd
      refine ⟨o, d, ho, h1, h2, by simpa using h3, hd, by simpa using h4, fun j hj he => ?_, h0⟩
      have hlt : j < ops.size := by
        unfold dstOf at he
        split at he
        · rename_i q hq; exact (Array.getElem?_eq_some_iff.1 hq).1
        · cases he
      rcases h5 j (List.mem_range.2 hlt) with e | e
      · exact hj e
      · exact e (by rw [he, hd])
    · cases h4
  · cases h
/-- The blocks that are made already, and the slots that have them. -/
structure FS (cx : Cx) (P : Program) (ops : Array Oper) (l : List Nat) (S : List Pd) (st : St) (a : Act) : Prop where
  mem : ∀ s ∈ S, s.1 ∈ floatsOf cx P ops l
  val : ∀ s ∈ S, ∀ o d, FOp cx P ops s.1 o d → (∀ v, a.tmps[d]? = some v → v = fval o s.2.1) ∧ FRun P a o s.2.2
  inj : ∀ s ∈ S, ∀ s' ∈ S, s.2.1 = s'.2.1 → s.1 = s'.1
  unk : ∀ f ∈ l, ∀ o d, FOp cx P ops f o d → ∀ sv, st.tm[d]? = some sv → sv = .unk
theorem put_getElem {d t : Tmp} {y : Value} (h : d ≠ t) : (a.put (some d) y).tmps[t]? = a.tmps[t]? := by
  simp only [Act.put]; rw [Array.getElem?_setIfInBounds_ne h]
theorem put_self {d : Tmp} {y v : Value} (h : (a.put (some d) y).tmps[d]? = some v) : v = y := by
  simp only [Act.put, Array.getElem?_setIfInBounds, if_true] at h
  split at h
  · exact (Option.some.inj h).symm
  · cases h
theorem put_getElem' {dst : Option Tmp} {t : Tmp} {y : Value} (h : dst ≠ some t) : (a.put dst y).tmps[t]? = a.tmps[t]? := by
  cases dst with
  | none => rfl
  | some d => exact put_getElem fun e => h (by rw [e])
theorem st_put' {dst : Option Tmp} {t : Tmp} {sv : SV} (h : dst ≠ some t) : (st.put dst sv).tm[t]? = st.tm[t]? := by
  cases dst with
  | none => rfl
  | some d => simp only [St.put]; rw [List.getElem?_set_ne (fun e => h (by rw [e]))]
theorem FRun.put {o : Oper} {b : Obj} {dst : Option Tmp} {y : Value} (hs : ∀ cs bb, o.op ≠ .select cs bb) (h : FRun P a o b) (hd : ∀ d, dst = some d → d ∉ o.looksAt ops) : FRun P (a.put dst y) o b := fun w => by
  rw [execOp_put (ops := ops) o hs a dst y hd]; exact h w
theorem mem_floats {l : List Nat} {f : Nat} : f ∈ floatsOf cx P ops l ↔ f ∈ l ∧ isFloat cx P ops f = true ∧ readyF ops l f = true := by
  unfold floatsOf; rw [List.mem_filter, Bool.and_eq_true]
theorem floats_tail {i f : Nat} {is : List Nat} (h : f ∈ floatsOf cx P ops (i :: is)) (hne : f ≠ i) : f ∈ floatsOf cx P ops is := by
  obtain ⟨h1, h2, h3⟩ := mem_floats.1 h
  refine mem_floats.2 ⟨(List.mem_cons.1 h1).resolve_left hne, h2, ?_⟩
  rw [readyF_iff] at h3 ⊢
  obtain ⟨o, ho, hp⟩ := h3
  exact ⟨o, ho, fun p hpp => ⟨(hp p hpp).1, fun hm => (hp p hpp).2 (List.mem_cons_of_mem _ hm)⟩⟩
structure DrOk (cx : Cx) (P : Program) (ops : Array Oper) (i : Nat) (is : List Nat) (o : Oper) : Prop where
  nd : i ∉ is
  rdy : readyF ops (i :: is) i = true
  apart : ∀ f ∈ floatsOf cx P ops (i :: is), ∀ q, ops[f]? = some q → ∀ g ∈ i :: floatsOf cx P ops (i :: is), g ≠ f → ∀ p, ops[g]? = some p → p.apart ops q = true
  quiet : quietOp P o = true → ∀ j ∈ is, ∀ oj, ops[j]? = some oj → i ∈ predsOf oj ∨ o.apart ops oj = true
  one : quietOp P o = false → ∀ j ∈ i :: is, (j ∉ floatsOf cx P ops (i :: is) ∨ j = i) → readyF ops ((i :: is).filter fun j => !(floatsOf cx P ops (i :: is)).contains j || j == i) j = true → j = i
  tail : fdrawOk cx P ops is = true
theorem DrOk.of {i : Nat} {is : List Nat} {o : Oper} (ho : ops[i]? = some o) (h : fdrawOk cx P ops (i :: is) = true) : DrOk cx P ops i is o := by
  unfold fdrawOk at h
  simp only [ho, Bool.and_eq_true, Bool.not_eq_true'] at h
  obtain ⟨⟨⟨⟨h1, h2⟩, h3⟩, h4⟩, h5⟩ := h
  refine ⟨by simpa using h1, h2, fun f hf q hq g hg hne p hp => ?_, fun hqt j hj oj hoj => ?_, fun hqt j hj hor hr => ?_, h5⟩
  · have := List.all_eq_true.1 h3 f hf
    rw [hq] at this
    have := List.all_eq_true.1 this g hg
    simp only [Bool.or_eq_true, beq_iff_eq, hp] at this
    exact this.resolve_left hne
  · rw [if_pos hqt] at h4
    have := List.all_eq_true.1 h4 j hj
    simp only [Bool.or_eq_true, beq_iff_eq, hoj] at this
    rcases this with e | e | e
    · subst e; exact absurd hj (by simpa using h1)
    · exact .inl (by simpa using e)
    · exact .inr e
  · rw [if_neg (by simp [hqt])] at h4
    have hm : j ∈ Vx.rdy ops ((i :: is).filter fun j => !(floatsOf cx P ops (i :: is)).contains j || j == i) := by
      unfold Vx.rdy
      rw [List.mem_filter, List.mem_filter]
      refine ⟨⟨hj, ?_⟩, hr⟩
      rcases hor with hn | rfl
      · simp [hn]
      · simp
    rw [beq_iff_eq.1 h4] at hm
    simpa using hm

theorem fOps_sound {β0 : Nat → Option Nat} {bx0 : List Box} {Hs : PHeap} (hns : Region.noSelect ops = true) (hQ : ∀ c a w, ¬ Q (.panic c) a w) {K : St → PHeap → Prop} :
    ∀ (m : Nat) (l : List Nat) (S : List Pd) {d : Dm} {st : St} {H : PHeap} {β : Nat → Option Nat} {a : Act} {w : World} (y : Array Bool), l.length + (out l (S.map (·.1))).length ≤ m →
      fOps cx P ops d l st H K → J (S.map (·.2)) H0 w0 β st H a w → DmIn P ops β0 bx0 Hs β st H w l d → FS cx P ops l S st a → Rel ops y (out l (S.map (·.1))) → Closed ops y → fdrawOk cx P ops l = true → l.Nodup →
      (∀ β' st' H' a' w', K st' H' → J [] H0 w0 β' st' H' a' w' → Ext β st.bx β' st'.bx → Kp (writtenAt ops l) a a' → Q .normal a' w') →
      wpAnyL P ops Q (DrawT ops β0 bx0 Hs) (out l (S.map (·.1))).length y a w := by
  intro m
  induction m with
  | zero =>
    intro l S d st H β a w y hm h hJ hD hF hR hc hdr hnd hK
    have hl : l = [] := List.eq_nil_of_length_eq_zero (by omega)
    subst hl
    have hS : S = [] := by
      cases S with
      | nil => rfl
      | cons s ss => have := (mem_floats.1 (hF.mem s (by simp))).1; cases this
    subst hS
    refine ⟨?_, hK β st H a w (by unfold fOps at h; exact h) hJ (Ext.refl _ _) (Kp.refl _ _)⟩
    refine List.eq_nil_iff_forall_not_mem.2 fun j hj => ?_
    have := ((rel_ready hR).1 hj).1
    simp [out] at this
  | succ m ih =>
    intro l S d st H β a w y hm h hJ hD hF hR hc hdr hnd hK
    cases l with
    | nil => exact ih [] S y (by simp [out]) h hJ hD hF hR hc hdr hnd hK
    | cons i is =>
    have hnd' := List.nodup_cons.1 hnd
    unfold fOps at h
    split at h
    · cases h
    rename_i hflok
    have hflok' : ∀ f ∈ floatsOf cx P ops (i :: is), ∀ o, ops[f]? = some o → ∃ c t, fcells P st o = some (c, t) := fun f hf o ho => by
      have := List.all_eq_true.1 hflok f hf
      rw [ho] at this
      obtain ⟨⟨c, t⟩, hct⟩ := Option.isSome_iff_exists.1 this
      exact ⟨c, t, hct⟩
    split at h
    · cases h
    rename_i o ho
    have hdk := DrOk.of ho hdr
    have hsel := Region.noSelect_spec hns
    by_cases hiS : i ∈ S.map (·.1)
    · -- the block is made already: now it is told of
      obtain ⟨s, hs, hsi⟩ := List.mem_map.1 hiS
      have hfl := hF.mem s hs
      obtain ⟨_, hisf, _⟩ := mem_floats.1 hfl
      rw [hsi] at hisf
      obtain ⟨o', dd, hfo⟩ := FOp.of hisf
      have : o' = o := by have := hfo.at_; rw [ho] at this; exact (Option.some.inj this).symm
      subst this
      have hg0 : guardSlot ops o' = some (none, true) := by unfold guardSlot; rw [hfo.guard]
      rw [hg0] at h
      simp only at h
      unfold vStep at h
      simp only [hfo.eff, Bool.false_eq_true, if_false] at h
      obtain ⟨hval, hrun⟩ := hF.val s hs o' dd (by rw [hsi]; exact hfo)
      have hp : (s.2.1, s.2.2) ∈ S.map (·.2) := List.mem_map.2 ⟨s, hs, rfl⟩
      have hpn := hJ.pnd _ hp
      -- the rest
      have rest : ∀ (d' : Dm) (c : List Value) (t : TypeId), fcells P st o' = some (c, t) → fOps cx P ops d' is (st.put o'.dst (.v (fval o' s.2.1))) (H.upd s.2.1 (.cells c.toArray t (0, 0))) K → (d'.bx = d.bx ∧ ((d'.on = d.on ∧ d'.hs = d.hs ∧ (d.on = true → Sub d.hs (H.upd s.2.1 (.cells c.toArray t (0, 0))))) ∨ (d'.on = false ∧ d'.hs = (fun _ => none) ∧ dropB P ops (i :: is) = true))) →
          wpAnyL P ops Q (DrawT ops β0 bx0 Hs) (out (i :: is) (S.map (·.1))).length y a w := by
        intro d' c t hct hk hdd
        have hobj : s.2.2 = .cells c.toArray t (0, 0) := FRun.det hrun (fcells_run hJ.tm hct) w
        rw [out_skip hiS] at hm hR ⊢
        have heq : out is (S.map (·.1)) = out is ((S.filter fun q => q.1 != i).map (·.1)) := by
          unfold out
          refine List.filter_congr fun x hx => ?_
          have hxi : x ≠ i := fun e => hnd'.1 (e ▸ hx)
          congr 1
          rw [Bool.eq_iff_iff]
          simp only [List.contains_eq_mem, decide_eq_true_eq, List.mem_map, List.mem_filter, bne_iff_ne]
          exact ⟨fun ⟨q, h1, h2⟩ => ⟨q, ⟨h1, fun e => hxi (by rw [← h2, e])⟩, h2⟩, fun ⟨q, ⟨h1, _⟩, h2⟩ => ⟨q, h1, h2⟩⟩
        rw [heq] at hm hR ⊢
        have hmS : ∀ q ∈ S.filter (fun q => q.1 != i), q ∈ S ∧ q.1 ≠ i := fun q hq => by
          have := List.mem_filter.1 hq
          exact ⟨this.1, by simpa using this.2⟩
        have hJ' := hJ.take (pd' := (S.filter fun q => q.1 != i).map (·.2)) hp (fun q hq => by
          obtain ⟨q', hq', rfl⟩ := List.mem_map.1 hq
          obtain ⟨h1, h2⟩ := hmS q' hq'
          exact ⟨List.mem_map.2 ⟨q', h1, rfl⟩, fun e => h2 (by rw [hF.inj q' h1 s hs e, hsi])⟩) hval
        rw [← hfo.dst, hobj] at hJ'
        refine ih is (S.filter fun q => q.1 != i) y (by simp only [List.length_cons] at hm; omega) hk hJ' ⟨hdd.1.trans hD.bx, fun j b hj => by rw [put_bx]; exact hD.box j b hj, hD.beta, hD.ok, ?_⟩ ⟨fun q hq => ?_, fun q hq o d hf => ?_, fun q hq q' hq' e => hF.inj q (hmS q hq).1 q' (hmS q' hq').1 e, fun f hf o d hfo' sv hsv => ?_⟩ hR hc hdk.tail hnd'.2 ?_
        · rcases hdd.2 with ⟨e1, e2, e3⟩ | ⟨e1, e2, e3⟩
          · rcases hD.hs with ⟨g1, g2, g3⟩ | ⟨g1, g2, g3⟩
            · exact .inl ⟨e1.trans g1, e2.trans g2, by rw [← g2]; exact e3 g1⟩
            · exact .inr ⟨e1.trans g1, e2.trans g2, dropB_tail g3⟩
          · exact .inr ⟨e1, e2, dropB_tail e3⟩
        · exact floats_tail (hF.mem q (hmS q hq).1) (hmS q hq).2
        · exact hF.val q (hmS q hq).1 o d hf
        · have hne : f ≠ i := fun e => hnd'.1 (e ▸ hf)
          rw [hfo.dst, st_put' (fun e => hfo'.uniq i hne.symm (by rw [dstOf_eq, ho]; show o'.dst = _; rw [hfo.dst, e]))] at hsv
          exact hF.unk f (List.mem_cons_of_mem _ hf) o d hfo' sv hsv
        · intro β' st' H' a' w' hk' hJ'' hext hkp
          rw [put_bx] at hext
          refine hK β' st' H' a' w' hk' hJ'' hext (hkp.mono fun t ht => ?_)
          simp only [writtenAt]
          split
          · exact List.mem_cons_of_mem _ ht
          · exact ht
      split at h
      · rename_i hon
        split at h
        · rename_i hdrp
          obtain ⟨c, t, hct, hk⟩ := fl_eff hfo.fl0 h
          exact rest _ c t hct (hk _ hpn.unk) ⟨rfl, .inr ⟨rfl, rfl, hdrp⟩⟩
        · obtain ⟨c, t, hct, hk⟩ := fl_eff hfo.fl0 h
          obtain ⟨h1, h2⟩ := hk _ hpn.unk
          exact rest _ c t hct h2 ⟨rfl, .inl ⟨rfl, rfl, fun _ => h1⟩⟩
      · rename_i hon
        obtain ⟨c, t, hct, hk⟩ := fl_eff hfo.fl0 h
        exact rest _ c t hct (hk _ hpn.unk) ⟨rfl, .inl ⟨rfl, rfl, fun e => by rw [hon] at e; cases e⟩⟩
    · -- the operation comes up
      have hu := out_cons (is := is) hiS
      have hul : (out (i :: is) (S.map (·.1))).length = (out is (S.map (·.1))).length + 1 := by rw [hu, List.length_cons]
      have hiu : i ∈ out (i :: is) (S.map (·.1)) := by rw [hu]; simp
      have hset : ∀ x, x ∈ out is (S.map (·.1)) ↔ x ∈ out (i :: is) (S.map (·.1)) ∧ x ≠ i := fun x => by
        rw [hu, List.mem_cons]
        constructor
        · intro hx
          exact ⟨.inr hx, fun e => hnd'.1 (by rw [← e]; exact (mem_out.1 hx).1)⟩
        · rintro ⟨hx | hx, hne⟩
          · exact absurd hx hne
          · exact hx
      have hR' := hR.set hset
      have hri : i ∈ Region.ready .any ops y := by
        refine (rel_ready hR).2 ⟨hiu, ?_⟩
        have := hdk.rdy
        rw [readyF_iff] at this ⊢
        obtain ⟨q, hq, hp⟩ := this
        exact ⟨q, hq, fun p hpp => ⟨(hp p hpp).1, fun hm => (hp p hpp).2 (mem_out.1 hm).1⟩⟩
      have hc' := closed_set hc hri
      have hin : i ∉ floatsOf cx P ops (i :: is) ∨ isFloat cx P ops i = true := by
        by_cases e : i ∈ floatsOf cx P ops (i :: is)
        · exact .inr (mem_floats.1 e).2.1
        · exact .inl e
      have dst_ne : ∀ f, f ∈ is → ∀ q d, FOp cx P ops f q d → o.dst ≠ some d := fun f hf q d hfo e => by
        have hne : f ≠ i := fun e => hnd'.1 (e ▸ hf)
        exact hfo.uniq i hne.symm (by rw [dstOf_eq, ho]; exact e)
      -- the rest, behind this operation
      have rest : ∀ (d' : Dm) (sv : SV) (st1 st' : St) (H' : PHeap) (β' : Nat → Option Nat) (v : Value) (w' : World), (∀ f ∈ is, ∀ q d, FOp cx P ops f q d → st1.tm[d]? = st.tm[d]? ∨ ∀ sv, st1.tm[d]? = some sv → sv = .unk) → st'.tm = st1.tm → fOps cx P ops d' is (st'.put o.dst sv) H' K → sv.conc β' v → J (S.map (·.2)) H0 w0 β' st' H' a w' → Ext β st.bx β' st'.bx → DmIn P ops β0 bx0 Hs β' st' H' w' is d' →
          wpAnyL P ops Q (DrawT ops β0 bx0 Hs) (out is (S.map (·.1))).length (y.setIfInBounds i true) (a.put o.dst v) w' := by
        intro d' sv st1 st' H' β' v w' hst1 htm hk hcv hJ' hext hD'
        refine ih is S (y.setIfInBounds i true) (by simp only [List.length_cons] at hm; omega) hk (hJ'.put o.dst hcv) ⟨hD'.bx, fun j c hj => by rw [put_bx]; exact hD'.box j c hj, hD'.beta, hD'.ok, hD'.hs⟩ ⟨fun q hq => ?_, fun q hq p d hf => ?_, hF.inj, fun f hf p d hfo sv' hsv => ?_⟩ hR' hc' hdk.tail hnd'.2 ?_
        · exact floats_tail (hF.mem q hq) fun e => hiS (List.mem_map.2 ⟨q, hq, e⟩)
        · have hqi : q.1 ≠ i := fun e => hiS (List.mem_map.2 ⟨q, hq, e⟩)
          have hqm := hF.mem q hq
          have hqis : q.1 ∈ is := (List.mem_cons.1 (mem_floats.1 hqm).1).resolve_left hqi
          obtain ⟨h1, h2⟩ := hF.val q hq p d hf
          refine ⟨fun v' hv' => h1 v' (by rw [← hv', put_getElem' (dst_ne _ hqis p d hf)]), h2.put (ops := ops) (fun cs b => hsel q.1 p cs b hf.at_) fun dd hdd => ?_⟩
          exact (Oper.apart_spec (hdk.apart q.1 hqm p hf.at_ i (by simp) (fun e => hqi e.symm) o ho)).1 dd hdd
        · rw [st_put' (dst_ne f hf p d hfo), htm] at hsv
          rcases hst1 f hf p d hfo with e | e
          · rw [e] at hsv
            exact hF.unk f (List.mem_cons_of_mem _ hf) p d hfo sv' hsv
          · exact e sv' hsv
        · intro β'' st'' H'' a'' w'' hk' hJ'' hext' hkp
          rw [put_bx] at hext'
          exact hK β'' st'' H'' a'' w'' hk' hJ'' (hext.trans hext') (hkp.step ho)
      -- an operation that only yields
      have quiet : ∀ (Sx : World → Prop) (v : Value), quietOp P o = true ∨ Region.wanted o (yielded ops a.tmps) = false → quietOp P o = true → Stays ops (DrawT ops β0 bx0 Hs) i Sx → YieldsIf P ops Sx o v a → Sx w → wpAnyL P ops Q (DrawT ops β0 bx0 Hs) (out is (S.map (·.1))).length (y.setIfInBounds i true) (a.put o.dst v) w →
          wpAnyL P ops Q (DrawT ops β0 bx0 Hs) (out (i :: is) (S.map (·.1))).length y a w := by
        intro Sx v _ hqt hSt hy hSw hrec
        rw [hul]
        refine wpAnyL_first ho hsel hQ hSt (fun w => .inl rfl) _ y a w hc (fun j oj hoj hji hun hno => ?_) hri hy hSw hrec
        have hju := hR.low hun
        rw [hu] at hju
        have hjis := (mem_out.1 ((List.mem_cons.1 hju).resolve_left hji)).1
        rcases hdk.quiet hqt j hjis oj hoj with e | e
        · obtain ⟨ed, he, hb, heq⟩ := predsOf_mem e
          exact absurd heq (hno ed he hb)
        · exact e
      -- a block is made
      have float : ∀ j, j ∈ floatsOf cx P ops (i :: is) → j ∉ S.map (·.1) → wpOp P ops Q j (fun a' w' => DrawT ops β0 bx0 Hs j w w' ∧ wpAnyL P ops Q (DrawT ops β0 bx0 Hs) (out is (S.map (·.1))).length (y.setIfInBounds j true) a' w') a w := by
        intro j hj hjS
        obtain ⟨hjl, hjf, hjr⟩ := mem_floats.1 hj
        obtain ⟨oj, dj, hfo⟩ := FOp.of hjf
        obtain ⟨c, t, hct⟩ := hflok' j hj oj hfo.at_
        have hrun := fcells_run hJ.tm hct
        have hju : j ∈ out (i :: is) (S.map (·.1)) := mem_out.2 ⟨hjl, hjS⟩
        have hjrd : j ∈ Region.ready .any ops y := by
          refine (rel_ready hR).2 ⟨hju, ?_⟩
          rw [readyF_iff] at hjr ⊢
          obtain ⟨q, hq, hp⟩ := hjr
          exact ⟨q, hq, fun p hpp => ⟨(hp p hpp).1, fun hm => (hp p hpp).2 (mem_out.1 hm).1⟩⟩
        have hbx : BxOk β0 bx0 (w.alloc (.cells c.toArray t (0, 0))) := fun k b hk => by
          obtain ⟨g, hg, hh⟩ := hD.ok k b hk
          exact ⟨g, hg, by rw [heap_alloc _ _ (Array.getElem?_eq_some_iff.1 hh).1]; exact hh⟩
        have hT : DrawT ops β0 bx0 Hs j w (w.alloc (.cells c.toArray t (0, 0))) := by
          refine .inr ⟨hbx, fun hkb k o' hk => ?_⟩
          rcases hD.hs with ⟨_, e, hsub⟩ | ⟨_, _, hdp⟩
          · have hk' := hJ.sees k o' (hsub.le k o' hk)
            rw [heap_alloc _ _ (Array.getElem?_eq_some_iff.1 hk').1]; exact hk'
          · exfalso
            have := List.all_eq_true.1 hdp j hjl
            rw [hfo.at_] at this
            simp [hfo.eff, hkb] at this
        unfold wpOp
        simp only [hfo.at_]
        have hwn : Region.wanted oj (yielded ops a.tmps) = true := wanted_none (w0 := true) (by unfold guardSlot; rw [hfo.guard]) _
        rw [if_pos hwn]
        refine .inl ?_
        unfold Oper.wp
        rw [hrun w]
        refine ⟨hT, ?_⟩
        rw [hfo.dst]
        have hlen := out_len (S := S.map (·.1)) hnd hjl hjS
        have e1 : (out is (S.map (·.1))).length = (out (i :: is) (((j, w.heap.size, Obj.cells c.toArray t (0, 0)) :: S).map (·.1))).length := by
          have h3 := hlen
          rw [hul] at h3
          exact (Nat.succ.inj h3).symm
        rw [e1]
        have hjst := hF.unk j hjl oj dj hfo
        refine ih (i :: is) ((j, w.heap.size, .cells c.toArray t (0, 0)) :: S) (y.setIfInBounds j true) (by
          have h2 := hm
          rw [← hlen] at h2
          exact Nat.le_of_succ_le_succ h2) ?_ (hJ.float hjst c.toArray t _) ⟨hD.bx, hD.box, hD.beta, hbx, hD.hs⟩ ⟨fun q hq => ?_, fun q hq p dd hf => ?_, fun q hq q' hq' e => ?_, hF.unk⟩ (hR.set fun x => ?_) (closed_set hc hjrd) hdr hnd fun β' st' H' a' w' hk' hJ'' hext hkp => hK β' st' H' a' w' hk' hJ'' hext (Kp.trans ⟨by rw [put_size], fun t' ht' => put_other (fun e => ht' (by injection e with e; rw [← e]; exact mem_written hjl (by rw [dstOf_eq, hfo.at_]; exact hfo.dst)))⟩ hkp)
        · unfold fOps
          rw [hflok]
          simp only [ho]
          exact h
        · rcases List.mem_cons.1 hq with rfl | hq
          · exact hj
          · exact hF.mem q hq
        · rcases List.mem_cons.1 hq with rfl | hq
          · have : p = oj := by have := hf.at_; rw [hfo.at_] at this; exact (Option.some.inj this).symm
            subst this
            have : dd = dj := by have := hf.dst; rw [hfo.dst] at this; exact (Option.some.inj this).symm
            subst this
            exact ⟨fun v hv => put_self hv, hrun.put (ops := ops) (fun cs b => hsel j _ cs b hfo.at_) fun x hx => by cases hx; exact hfo.self⟩
          · have hne : q.1 ≠ j := fun e => hjS (List.mem_map.2 ⟨q, hq, e⟩)
            obtain ⟨h1, h2⟩ := hF.val q hq p dd hf
            have hdd : dj ≠ dd := fun e => hf.uniq j (fun e => hne e.symm) (by rw [dstOf_eq, hfo.at_]; show oj.dst = _; rw [hfo.dst, e])
            refine ⟨fun v hv => h1 v (by rw [← hv, put_getElem hdd]), h2.put (ops := ops) (fun cs b => hsel q.1 p cs b hf.at_) fun x hx => ?_⟩
            exact (Oper.apart_spec (hdk.apart q.1 (hF.mem q hq) p hf.at_ j (List.mem_cons_of_mem _ hj) (fun e => hne e.symm) oj hfo.at_)).1 x (by rw [hfo.dst]; exact hx)
        · have lt : ∀ q ∈ S, q.2.1 < w.heap.size := fun q hq => (hJ.pnd q.2 (List.mem_map.2 ⟨q, hq, rfl⟩)).lt
          rcases List.mem_cons.1 hq with rfl | hq <;> rcases List.mem_cons.1 hq' with rfl | hq'
          · rfl
          · have := lt q' hq'; simp only at e; omega
          · have := lt q hq; simp only at e; omega
          · exact hF.inj q hq q' hq' e
        · rw [mem_out, mem_out]
          simp only [List.map_cons, List.mem_cons, not_or]
          exact ⟨fun ⟨h1, h2, h3⟩ => ⟨⟨h1, h3⟩, h2⟩, fun ⟨⟨h1, h3⟩, h2⟩ => ⟨h1, h2, h3⟩⟩
      -- what may come up
      have upcase : quietOp P o = false → (isFloat cx P ops i = false → wpOp P ops Q i (fun a' w' => DrawT ops β0 bx0 Hs i w w' ∧ wpAnyL P ops Q (DrawT ops β0 bx0 Hs) (out is (S.map (·.1))).length (y.setIfInBounds i true) a' w') a w) →
          wpAnyL P ops Q (DrawT ops β0 bx0 Hs) (out (i :: is) (S.map (·.1))).length y a w := by
        intro hq hi
        rw [hul]
        refine ⟨fun e => (by rw [e] at hri; cases hri), fun j hj => ?_⟩
        obtain ⟨hju, hjr⟩ := (rel_ready hR).1 hj
        obtain ⟨hjl, hjS⟩ := mem_out.1 hju
        by_cases hjf : j ∈ floatsOf cx P ops (i :: is)
        · exact float j hjf hjS
        · have hji : j = i := by
            refine hdk.one hq j hjl (.inl hjf) ?_
            rw [readyF_iff] at hjr ⊢
            obtain ⟨q, hq', hp⟩ := hjr
            refine ⟨q, hq', fun p hpp => ⟨(hp p hpp).1, fun hm => (hp p hpp).2 ?_⟩⟩
            obtain ⟨h1, h2⟩ := List.mem_filter.1 hm
            refine mem_out.2 ⟨h1, fun hpS => ?_⟩
            obtain ⟨s, hs, rfl⟩ := List.mem_map.1 hpS
            have := hF.mem s hs
            simp only [Bool.or_eq_true, Bool.not_eq_true', beq_iff_eq] at h2
            rcases h2 with h2 | h2
            · simp [this] at h2
            · exact hiS (List.mem_map.2 ⟨s, hs, h2⟩)
          subst hji
          refine hi ?_
          cases hx : isFloat cx P ops j with
          | false => rfl
          | true => exact absurd (mem_floats.2 ⟨hjl, hx, hdk.rdy⟩) hjf
      have go : ∀ {st1 : St}, J (S.map (·.2)) H0 w0 β st1 H a w → st1.bx = st.bx → (∀ f ∈ is, ∀ q d, FOp cx P ops f q d → st1.tm[d]? = st.tm[d]? ∨ ∀ sv, st1.tm[d]? = some sv → sv = .unk) → Region.wanted o (yielded ops a.tmps) = true →
          vStep cx P (some d) (dropB P ops (i :: is)) st1 H o (fun dm sv st H => match dm with
            | some d => fOps cx P ops d is (st.put o.dst sv) H K
            | none => False) → wpAnyL P ops Q (DrawT ops β0 bx0 Hs) (out (i :: is) (S.map (·.1))).length y a w := by
        intro st1 hJ1 hbx hst1 hwn hs
        have hD1 : DmIn P ops β0 bx0 Hs β st1 H w is d := ⟨hD.bx, fun j c hj => by rw [hbx]; exact hD.box j c hj, hD.beta, hD.ok, hD.hs.imp id fun h => ⟨h.1, h.2.1, dropB_tail h.2.2⟩⟩
        unfold vStep at hs
        split at hs
        · rename_i hdm; cases hdm
        rename_i d0 hdm
        obtain rfl := Option.some.inj hdm
        split at hs
        · rename_i hq
          obtain ⟨sv, v, hk, hcv, hr, hr2⟩ := vQuiet_sound hJ1.tm hs
          have fin := rest d sv st1 st1 H β v w hst1 rfl hk hcv hJ1 (by rw [hbx]; exact Ext.refl _ _) hD1
          rw [hD.bx] at hr hr2
          cases hld : isLoad o with
          | false => exact quiet _ v (.inl hq) hq (stays_bx β0 bx0 Hs i) (.inl ⟨hwn, fun w' e => hr2 hld w' (BxOk.mono e hD.beta)⟩) hD.ok fin
          | true =>
            rcases hD.hs with ⟨_, he, hsub⟩ | ⟨_, he, _⟩
            · rw [he] at hr
              exact quiet _ v (.inl hq) hq (stays_load β0 bx0 Hs ho hld) (.inl ⟨hwn, fun w' e => hr w' (BxOk.mono e.1 hD.beta) e.2⟩) ⟨hD.ok, fun k o hk => hJ1.sees k o (hsub.le k o hk)⟩ fin
            · rw [he] at hr
              exact quiet _ v (.inl hq) hq (stays_bx β0 bx0 Hs i) (.inl ⟨hwn, fun w' e => hr w' (BxOk.mono e hD.beta) (fun k o hk => by cases hk)⟩) hD.ok fin
        · rename_i hq
          have hq' : quietOp P o = false := by simpa using hq
          refine upcase hq' fun hnf => ?_
          have toOp : OpOk P none false o a w (fun a' w' => DrawT ops β0 bx0 Hs i w w' ∧ wpAnyL P ops Q (DrawT ops β0 bx0 Hs) (out is (S.map (·.1))).length (y.setIfInBounds i true) a' w') Q → wpOp P ops Q i (fun a' w' => DrawT ops β0 bx0 Hs i w w' ∧ wpAnyL P ops Q (DrawT ops β0 bx0 Hs) (out is (S.map (·.1))).length (y.setIfInBounds i true) a' w') a w := fun h => by
            unfold wpOp
            simp only [ho, hwn, if_true]
            exact .inl (h.plain rfl)
          refine toOp ?_
          have after : ∀ (st' : St) (H' : PHeap) (β' : Nat → Option Nat) (w' : World), J (S.map (·.2)) H0 w0 β' st' H' a w' → Ext β st1.bx β' st'.bx → (∀ (j : Nat) (c : Box), st1.bx[j]? = some c → st'.bx[j]? = some c) →
              (∀ (j : Nat) (c : Box), bx0[j]? = some c → st'.bx[j]? = some c) ∧ (∀ j g, β0 j = some g → β' j = some g) ∧ BxOk β0 bx0 w' := by
            intro st' H' β' w' hJ' hext hlc
            have hpre : ∀ (j : Nat) (c : Box), bx0[j]? = some c → st'.bx[j]? = some c := fun j c hj => hlc j c (hD1.box j c hj)
            have hβ : ∀ j g, β0 j = some g → β' j = some g := fun j g hj => hext.beta j g (hD.beta j g hj)
            refine ⟨hpre, hβ, fun j c hj => ?_⟩
            obtain ⟨g0, hg0, _⟩ := hD.ok j c hj
            obtain ⟨g1, hg1, hh⟩ := hJ'.bx j c (hpre j c hj)
            rw [hβ j g0 hg0] at hg1
            obtain rfl := Option.some.inj hg1
            exact ⟨_, hg0, hh⟩
          split at hs
          · rename_i hon
            have hsub0 : d.hs = Hs := by
              rcases hD.hs with ⟨_, h, _⟩ | ⟨h, _⟩
              · exact h
              · rw [hon] at h; cases h
            split at hs
            · rename_i hdr'
              refine vEff_sound hJ1 hs ?_
              intro sv st' H' β' v w' hk hcv hJ' hext htm hlc
              obtain ⟨p1, p2, p3⟩ := after st' H' β' w' hJ' hext (hlc rfl)
              exact ⟨.inr ⟨p3, fun h => by rw [dropB_head ho hq' hdr'] at h; cases h⟩, rest _ sv st1 st' H' β' v w' hst1 htm hk hcv hJ' (by rw [hbx] at hext; exact hext) ⟨hD.bx, p1, p2, p3, .inr ⟨rfl, rfl, dropB_tail hdr'⟩⟩⟩
            · refine vEff_sound hJ1 hs ?_
              intro sv st' H' β' v w' hk hcv hJ' hext htm hlc
              obtain ⟨p1, p2, p3⟩ := after st' H' β' w' hJ' hext (hlc rfl)
              rw [hsub0] at hk
              exact ⟨.inr ⟨p3, fun _ k o hk' => hJ'.sees k o (hk.1.le k o hk')⟩, rest _ sv st1 st' H' β' v w' hst1 htm hk.2 hcv hJ' (by rw [hbx] at hext; exact hext) ⟨hD.bx, p1, p2, p3, .inl ⟨hon, hsub0, hk.1⟩⟩⟩
          · rename_i hon
            have hdr'' : (d.hs = fun _ => none) ∧ dropB P ops (i :: is) = true := by
              rcases hD.hs with ⟨h, _⟩ | ⟨_, h⟩
              · rw [hon] at h; cases h
              · exact h
            refine vEff_sound hJ1 hs ?_
            intro sv st' H' β' v w' hk hcv hJ' hext htm hlc
            obtain ⟨p1, p2, p3⟩ := after st' H' β' w' hJ' hext (hlc rfl)
            exact ⟨.inr ⟨p3, fun h => by rw [dropB_head ho hq' hdr''.2] at h; cases h⟩, rest _ sv st1 st' H' β' v w' hst1 htm hk hcv hJ' (by rw [hbx] at hext; exact hext) ⟨hD.bx, p1, p2, p3, .inr ⟨hon, hdr''.1, dropB_tail hdr''.2⟩⟩⟩
      have goSkip : ∀ {st1 : St}, J (S.map (·.2)) H0 w0 β st1 H a w → st1.bx = st.bx → (∀ f ∈ is, ∀ q d, FOp cx P ops f q d → st1.tm[d]? = st.tm[d]? ∨ ∀ sv, st1.tm[d]? = some sv → sv = .unk) → Region.wanted o (yielded ops a.tmps) = false →
          fOps cx P ops d is (st1.put o.dst (.v undef)) H K → wpAnyL P ops Q (DrawT ops β0 bx0 Hs) (out (i :: is) (S.map (·.1))).length y a w := by
        intro st1 hJ1 hbx hst1 hwn hs
        have hD1 : DmIn P ops β0 bx0 Hs β st1 H w is d := ⟨hD.bx, fun j c hj => by rw [hbx]; exact hD.box j c hj, hD.beta, hD.ok, hD.hs.imp id fun h => ⟨h.1, h.2.1, dropB_tail h.2.2⟩⟩
        have fin := rest d (.v undef) st1 st1 H β undef w hst1 rfl hs rfl hJ1 (by rw [hbx]; exact Ext.refl _ _) hD1
        by_cases hq : quietOp P o = true
        · exact quiet (fun w' => w' = w') undef (.inl hq) hq (fun _ _ _ _ _ _ _ _ _ => rfl) (.inr ⟨hwn, rfl⟩) rfl fin
        · refine upcase (by simpa using hq) fun _ => ?_
          unfold wpOp
          simp only [ho, hwn]
          exact ⟨.inl rfl, fin⟩
      split at h
      · cases h
      · rename_i w0' hg
        exact go hJ rfl (fun _ _ _ _ _ => .inl rfl) (wanted_none hg _) h
      · rename_i t want hg
        have hget := hJ.tm.get t
        have kb : ∀ (b c : Bool), st.get t = .v (.bool b) → ∀ f ∈ is, ∀ q d, FOp cx P ops f q d → (st.kbAt (.tmp t) c).tm[d]? = st.tm[d]? ∨ ∀ sv, (st.kbAt (.tmp t) c).tm[d]? = some sv → sv = .unk := by
          intro b c hb f hf q d hfo
          left
          have hne : t ≠ d := fun e => by
            subst e
            unfold St.get at hb
            rw [List.getD_eq_getElem?_getD] at hb
            cases hx : st.tm[t]? with
            | none => rw [hx] at hb; cases hb
            | some sv =>
              rw [hx] at hb
              simp only [Option.getD_some] at hb
              have := hF.unk f (List.mem_cons_of_mem _ hf) q t hfo sv hx
              rw [this] at hb; cases hb
          simp only [St.kbAt]
          rw [List.getElem?_set_ne hne]
        split at h
        · rename_i b hb
          rw [hb] at hget
          have hwb := wanted_bool hg hget
          split at h
          · rename_i he
            exact go hJ rfl (fun _ _ _ _ _ => .inl rfl) (by rw [hwb, he]) h
          · rename_i he
            exact goSkip hJ rfl (fun _ _ _ _ _ => .inl rfl) (by rw [hwb, he]) h
        · rename_i b hb
          have hb0 := hb
          rw [hb] at hget
          have hwb := wanted_bool hg hget
          by_cases he : b = want
          · subst he
            exact go (hJ.kbAt (x := .tmp t) hget) (kbAt_bx _ _) (kb _ _ hb0) (by rw [hwb]; simp) (h.1 rfl)
          · have hb' : b = !want := bool_not he
            have hget' : a.eval (.tmp t) = .bool (!want) := by rw [← hb']; exact hget
            exact goSkip (hJ.kbAt (x := .tmp t) hget') (kbAt_bx _ _) (kb _ _ hb0) (by rw [hwb, hb']; cases want <;> rfl) (h.2 hb')
        · rename_i vs hb
          rw [hb] at hget
          exact goSkip hJ rfl (fun _ _ _ _ _ => .inl rfl) (wanted_tuple hg hget) h
        · cases h

theorem fdraw_nodup : ∀ {l : List Nat}, fdrawOk cx P ops l = true → l.Nodup ∧ ∀ j ∈ l, j < ops.size
  | [], _ => ⟨List.nodup_nil, fun _ h => (by cases h)⟩
  | i :: is, h => by
    cases ho : ops[i]? with
    | none => unfold fdrawOk at h; simp [ho] at h
    | some o =>
      have hd := DrOk.of ho h
      obtain ⟨h1, h2⟩ := fdraw_nodup hd.tail
      exact ⟨List.nodup_cons.2 ⟨hd.nd, h1⟩, fun j hj => by
        rcases List.mem_cons.1 hj with rfl | hj
        · exact (Array.getElem?_eq_some_iff.1 ho).1
        · exact h2 j hj⟩
theorem fRegion_sound {Hs : PHeap} {K : St → PHeap → Prop} {l : List Nat} (hns : Region.noSelect ops = true) (hQ : ∀ c a w, ¬ Q (.panic c) a w) (hdr : fdrawOk cx P ops l = true) (hall : ((List.range ops.size).all fun j => l.contains j) = true)
    (hv : fOps cx P ops ⟨Hs, st.bx, true⟩ l { st with tm := forget (flDsts cx P ops) 0 st.tm } H K) (hJ : J [] H0 w0 β st H a w) (hsub : Sub Hs H)
    (hK : ∀ β' st' H' a' w', K st' H' → J [] H0 w0 β' st' H' a' w' → Ext β st.bx β' st'.bx → Kp (writtenAt ops l) a a' → Q .normal a' w') :
    wpAnyL P ops Q (DrawT ops β st.bx Hs) ops.size (Array.replicate ops.size false) a w := by
  obtain ⟨hnd, hlt⟩ := fdraw_nodup hdr
  have hin : ∀ j, j < ops.size → j ∈ l := fun j hj => by
    have := List.all_eq_true.1 hall j (List.mem_range.2 hj)
    simpa using this
  have hout : out l (([] : List Pd).map (·.1)) = l := by unfold out; exact List.filter_eq_self.2 fun x _ => by simp
  have hlen : l.length = ops.size := by
    have hp : l.Perm (List.range ops.size) := (List.perm_ext_iff_of_nodup hnd List.nodup_range).2 fun x => ⟨fun h => List.mem_range.2 (hlt x h), fun h => hin x (List.mem_range.1 h)⟩
    rw [hp.length_eq, List.length_range]
  have := fOps_sound (cx := cx) (H0 := H0) (w0 := w0) (β0 := β) (bx0 := st.bx) (Hs := Hs) hns hQ (l.length + (out l (([] : List Pd).map (·.1))).length) l [] (β := β) (a := a) (w := w) (Array.replicate ops.size false) (Nat.le_refl _) hv
    ⟨⟨by rw [hJ.tm.size]; simp [forget_len], fun t sv hsv => ?_⟩, hJ.bx, hJ.dom, hJ.inj, hJ.nloc, hJ.old, hJ.nx, hJ.dfr, fun _ h => (by cases h)⟩
    ⟨rfl, fun _ _ h => h, fun _ _ h => h, hJ.bx, .inl ⟨rfl, rfl, hsub⟩⟩ ⟨fun _ h => (by cases h), fun _ h => (by cases h), fun _ h => (by cases h), fun f hf o d hfo sv hsv => ?_⟩ ⟨by simp, fun j hj => ?_⟩ closed_empty hdr hnd hK
  · rw [hout, hlen] at this; exact this
  · rw [forget_get] at hsv
    cases hx : st.tm[t]? with
    | none => rw [hx] at hsv; cases hsv
    | some x =>
      rw [hx] at hsv
      simp only [Option.map_some, Option.some.injEq] at hsv
      split at hsv
      · subst hsv; trivial
      · subst hsv; exact hJ.tm.at_ t _ hx
  · have hm : (flDsts cx P ops).contains d = true := by
      unfold flDsts
      rw [List.contains_iff_mem, List.mem_filterMap]
      refine ⟨f, List.mem_range.2 (hlt f hf), ?_⟩
      rw [if_pos hfo.is_, dstOf_eq, hfo.at_]
      exact hfo.dst
    rw [forget_get] at hsv
    cases hx : st.tm[d]? with
    | none => rw [hx] at hsv; cases hsv
    | some x =>
      rw [hx] at hsv
      simp only [Option.map_some, Option.some.injEq] at hsv
      rw [if_pos (by simpa using hm)] at hsv
      exact hsv.symm
  · rw [hout]
    have : j < (Array.replicate ops.size false).size := by simpa using hj
    rw [Array.getD_eq_getD_getElem?, Array.getElem?_eq_getElem this]
    simp [hin j hj]
end
end Go.Vx
