/- The executor is right: what it asks of a function is enough for every call of it. -/
import Derived.Test.YtllbdocjgdnofaaVxV
import Derived.KernelRfl
namespace Go.Vx
section
variable {P : Program} {cx : Cx} {H0 : PHeap} {w0 : World}

theorem mem_app_l {α : Type} {t : α} {x y : List α} (h : t ∈ x) : t ∈ x ++ y := List.mem_append.2 (.inl h)
theorem mem_app_r {α : Type} {t : α} {x y : List α} (h : t ∈ y) : t ∈ x ++ y := List.mem_append.2 (.inr h)
theorem J.drew {β : Nat → Option Nat} {st : St} {H : PHeap} {a : Act} {w : World} (h : J [] H0 w0 β st H a w) : J [] H0 w0 β st H a { w with drawn := w.drawn + 1 } := h.step (Nx.drew h.sees)
theorem pCode_len : ∀ (c : Code) {st st' : St}, pCode P c st = some st' → st'.tm.length = st.tm.length ∧ st'.bx = st.bx
  | .skip, st, st', h => by simp [pCode] at h; rw [h]; exact ⟨rfl, rfl⟩
  | .region _ ops false, st, st', h => by
    simp only [pCode] at h
    exact ⟨pOps_len _ h, pOps_bx _ h⟩
  | .region _ ops true, st, st', h => by simp [pCode] at h
  | .seq a b, st, st', h => by
    simp only [pCode] at h
    split at h
    · rename_i s1 h1
      obtain ⟨x1, x2⟩ := pCode_len a h1
      obtain ⟨y1, y2⟩ := pCode_len b h
      exact ⟨y1.trans x1, y2.trans x2⟩
    · cases h
  | .cond c a b, st, st', h => by
    simp only [pCode] at h
    split at h
    · exact pCode_len a h
    · exact pCode_len b h
    · split at h
      · obtain rfl := Option.some.inj h; exact ⟨by simp [mergeTm_len], rfl⟩
      · cases h
    · cases h
  | .block _ _, st, st', h => by simp [pCode] at h
  | .loop _, st, st', h => by simp [pCode] at h
  | .rangeFunc _ _ _ _, st, st', h => by simp [pCode] at h
  | .exit _, st, st', h => by simp [pCode] at h
  | .scope _, st, st', h => by simp [pCode] at h
  | .label _, st, st', h => by simp [pCode] at h
  | .goto _, st, st', h => by simp [pCode] at h
  | .ret, st, st', h => by simp [pCode] at h
  | .refuse _, st, st', h => by simp [pCode] at h
theorem pCode_sound {r : Option Nat} : ∀ (c : Code) {st st' : St} {β : Nat → Option Nat} {H : PHeap} {a : Act} {w : World} {Q : Exit → Act → World → Prop}, pCode P c st = some st' → J [] H0 w0 β st H a w →
    (∀ a', J [] H0 w0 β st' H a' w → Kp (writtenC c) a a' → Q .normal a' w) → c.wpIn (RF r) 0 P Q a w
  | .skip, st, st', β, H, a, w, Q, h, hJ, hQ => by
    simp [pCode] at h
    subst h
    exact wpIn_skip (hQ a hJ (Kp.refl _ _))
  | .region _ ops false, st, st', β, H, a, w, Q, h, hJ, hQ => by
    simp only [pCode] at h
    refine wpIn_region (pOps_sound (S := fun w' => w' = w) textRuns (fun _ => trivial) (fun w' e => by subst e; exact hJ.bx) rfl (List.range ops.size) () h hJ.tm fun a' ha' => ?_)
    have hb := pOps_bx _ h
    refine hQ a' ⟨ha'.tm, by rw [hb]; exact hJ.bx, by rw [hb]; exact hJ.dom, hJ.inj, hJ.nloc, hJ.old, hJ.nx, by rw [ha'.dfr]; exact hJ.dfr, hJ.pnd⟩ ⟨by rw [ha'.tm.size, pOps_len _ h, hJ.tm.size], fun t ht => ha'.keep t fun hm => ht (writtenAt_range ops _ t hm)⟩
  | .region _ ops true, st, st', β, H, a, w, Q, h, hJ, hQ => by simp [pCode] at h
  | .seq c d, st, st', β, H, a, w, Q, h, hJ, hQ => by
    simp only [pCode] at h
    split at h
    · rename_i s1 h1
      refine wpIn_seq (pCode_sound c h1 hJ fun a' hJ' hk => ?_)
      exact pCode_sound d h hJ' fun a'' hJ'' hk' => hQ a'' hJ'' ((hk.mono fun _ => mem_app_l).trans (hk'.mono fun _ => mem_app_r))
    · cases h
  | .cond x c d, st, st', β, H, a, w, Q, h, hJ, hQ => by
    simp only [pCode] at h
    have hx := hJ.tm.ev x
    split at h
    · rename_i he
      rw [he] at hx
      exact wpIn_cond_true hx (pCode_sound c h hJ fun a' hJ' hk => hQ a' hJ' (hk.mono fun _ => mem_app_l))
    · rename_i he
      rw [he] at hx
      exact wpIn_cond_false hx (pCode_sound d h hJ fun a' hJ' hk => hQ a' hJ' (hk.mono fun _ => mem_app_r))
    · rename_i t he
      rw [he] at hx
      split at h
      · rename_i s1 s2 h1 h2
        obtain rfl := Option.some.inj h
        have l1 := pCode_len c h1
        have l2 := pCode_len d h2
        rw [kbAt_len, kbAt_bx] at l1 l2
        cases t
        · refine wpIn_cond_false hx (pCode_sound d h2 (hJ.kbAt hx) fun a' hJ' hk => ?_)
          have hk' := hk.mono (W' := writtenC c ++ writtenC d) fun _ => mem_app_r
          refine hQ a' ⟨hJ.tm.merge (c := false) l1.1 l2.1 hk'.at_ hJ'.tm, ?_, ?_, hJ'.inj, hJ'.nloc, hJ'.old, hJ'.nx, hJ'.dfr, hJ'.pnd⟩ hk'
          · have := hJ'.bx; rw [l2.2] at this; exact this
          · have := hJ'.dom; rw [l2.2] at this; exact this
        · refine wpIn_cond_true hx (pCode_sound c h1 (hJ.kbAt hx) fun a' hJ' hk => ?_)
          have hk' := hk.mono (W' := writtenC c ++ writtenC d) fun _ => mem_app_l
          refine hQ a' ⟨hJ.tm.merge (c := true) l1.1 l2.1 hk'.at_ hJ'.tm, ?_, ?_, hJ'.inj, hJ'.nloc, hJ'.old, hJ'.nx, hJ'.dfr, hJ'.pnd⟩ hk'
          · have := hJ'.bx; rw [l1.2] at this; exact this
          · have := hJ'.dom; rw [l1.2] at this; exact this
      · cases h
    · cases h
  | .block _ _, st, st', _, _, _, _, _, h, _, _ => by simp [pCode] at h
  | .loop _, st, st', _, _, _, _, _, h, _, _ => by simp [pCode] at h
  | .rangeFunc _ _ _ _, st, st', _, _, _, _, _, h, _, _ => by simp [pCode] at h
  | .exit _, st, st', _, _, _, _, _, h, _, _ => by simp [pCode] at h
  | .scope _, st, st', _, _, _, _, _, h, _, _ => by simp [pCode] at h
  | .label _, st, st', _, _, _, _, _, h, _, _ => by simp [pCode] at h
  | .goto _, st, st', _, _, _, _, _, h, _, _ => by simp [pCode] at h
  | .ret, st, st', _, _, _, _, _, h, _, _ => by simp [pCode] at h
  | .refuse _, st, st', _, _, _, _, _, h, _, _ => by simp [pCode] at h

theorem carried_get {zs : List Value} {st : St} {ts : List Tmp} {bs : List Nat} {n : Nat} {R : List Value → Prop} (h : carried zs st ts bs n R) : ∃ l, genVals st ts bs = some l ∧ fitVs zs l = true ∧ R l := by
  unfold carried at h
  split at h
  · rename_i l hl
    split at h
    · rename_i hc; exact ⟨l, hl, hc.1, h⟩
    · cases h
  · cases h
/-- What a piece of code hands on, at each of its ends. -/
def HandsC (H0 : PHeap) (w0 : World) (β : Nat → Option Nat) (bx : List Box) (W : List Tmp) (a : Act) (K : St → PHeap → Prop) (F : Act → World → Prop) : Prop :=
  ∀ β' st' H' a' w', K st' H' → J [] H0 w0 β' st' H' a' w' → Ext β bx β' st'.bx → Kp W a a' → F a' w'

theorem Ext.of_like {β : Nat → Option Nat} {st : St} {bs : List Nat} {bx' : List Box} (hl : BxLike st bs bx') (hz : ∀ (i : Nat) (c d : Box), st.bx[i]? = some c → bx'[i]? = some d → d.fz = c.fz) (hf : ∀ i c, i ∈ bs → st.bx[i]? = some c → c.fz = false) : Ext β st.bx β bx' := by
  refine ⟨fun _ _ h => h, fun i c hc => ?_⟩
  obtain ⟨d, hd, e1, e2, e3⟩ := hl i c hc
  exact ⟨d, hd, e1, hz i c d hc hd, e2, fun h => e3 fun hm => by rw [hf i c hm hc] at h; cases h⟩
theorem genVals_fz {st : St} {ts : List Tmp} {bs : List Nat} {l : List Value} (h : genVals st ts bs = some l) : ∀ i c, i ∈ bs → st.bx[i]? = some c → c.fz = false := by
  obtain ⟨la, lb, _, _, hb⟩ := genVals_split h
  exact boxVals_fz bs hb
/-- What the executor's soundness says of a piece of code, in a round's frame. -/
def SoundAt (cx : Cx) (P : Program) (c : Code) : Prop :=
  ∀ {H0 : PHeap} {w0 : World} {l : Nat} {st : St} {H : PHeap} {Kn : St → PHeap → Prop} {Kx : Nat → St → PHeap → Prop} {Kr : St → PHeap → Prop} {Q : Exit → Act → World → Prop} {β : Nat → Option Nat} {a : Act} {w : World},
    vCode cx P c st H Kn Kx Kr → plainC c = true → J [] H0 w0 β st H a w → (∀ ch a w, ¬ Q (.panic ch) a w) →
    HandsC H0 w0 β st.bx (writtenC c) a Kn (Q .normal) → (∀ j, HandsC H0 w0 β st.bx (writtenC c) a (Kx j) (Q (.exit j))) → HandsC H0 w0 β st.bx (writtenC c) a Kr (Q .ret) → c.wpIn (RF (some l)) 0 P Q a w
theorem bindPs_bx : ∀ (ts : List Tmp) (vs : List Value) (fs : List Bool) (st : St), (bindPs st fs ts vs).bx = st.bx
  | [], _, _, st => by unfold bindPs; rfl
  | t :: ts, [], _, st => by unfold bindPs; rfl
  | t :: ts, v :: vs, [], st => by unfold bindPs; exact bindPs_bx ts vs [] _
  | t :: ts, v :: vs, true :: fs, st => by unfold bindPs; exact bindPs_bx ts vs fs _
  | t :: ts, v :: vs, false :: fs, st => by unfold bindPs; exact bindPs_bx ts vs fs _
theorem bindPs_ok {β : Nat → Option Nat} : ∀ (ts : List Tmp) (vs : List Value) (fs : List Bool) {st : St} {a : Act}, TmOk β st a → vs.length = ts.length →
    TmOk β (bindPs st fs ts vs) { a with tmps := (ts.zip vs).foldl (fun tmps (t, v) => tmps.setIfInBounds t v) a.tmps }
  | [], _, _, st, a, h, _ => by unfold bindPs; simpa using h
  | t :: ts, [], _, st, a, h, hl => by simp at hl
  | t :: ts, v :: vs, [], st, a, h, hl => by
    unfold bindPs
    exact bindPs_ok ts vs [] (a := a.put (some t) v) (h.put (some t) (sv := .v v) rfl) (by simpa using hl)
  | t :: ts, v :: vs, true :: fs, st, a, h, hl => by
    unfold bindPs
    exact bindPs_ok ts vs fs (a := a.put (some t) v) (h.put (some t) (sv := .fv v) rfl) (by simpa using hl)
  | t :: ts, v :: vs, false :: fs, st, a, h, hl => by
    unfold bindPs
    exact bindPs_ok ts vs fs (a := a.put (some t) v) (h.put (some t) (sv := .v v) rfl) (by simpa using hl)
theorem fitVs_len : ∀ {zs l : List Value}, fitVs zs l = true → l.length = zs.length
  | [], [], _ => rfl
  | [], _ :: _, h => by simp [fitVs] at h
  | _ :: _, [], h => by simp [fitVs] at h
  | z :: zs, v :: vs, h => by simp only [fitVs, Bool.and_eq_true] at h; simp [fitVs_len h.2]
theorem zerosOf_len : ∀ {ts : List TypeId} {zs : List Value}, zerosOf P ts = some zs → zs.length = ts.length
  | [], zs, h => by simp [zerosOf] at h; subst h; rfl
  | t :: ts, zs, h => by
    simp only [zerosOf] at h
    split at h
    · rename_i z zs' h1 h2; obtain rfl := Option.some.inj h; simp [zerosOf_len h2]
    · cases h
theorem updL_nx {H H' : PHeap} {w w' : World} {l : Nat} {b o o' : Obj} (hn : Nx H H' (w.putObj l b) w') (hl : l < w.heap.size) (h0 : H l = none) : Nx (H.upd l o) (H'.upd l o') w (w'.putObj l o') := by
  have hsz : w.heap.size ≤ w'.heap.size := by simpa using hn.size
  refine ⟨hn.os, hn.tape, hn.output, by simpa using hsz, fun k hk hk0 => ?_, fun k hk => ?_, fun k o2 hk => ?_⟩
  · have hne : k ≠ l := fun e => by subst e; simp [PHeap.upd] at hk0
    rw [World.putObj_heap_other hne, hn.keep k (by simpa using hk) (by simpa [PHeap.upd, hne] using hk0), World.putObj_heap_other hne]
  · by_cases e : k = l
    · left; simp [PHeap.upd, e]
    · rcases hn.fresh k (by simpa [PHeap.upd, e] using hk) with h | h
      · left; simpa [PHeap.upd, e] using h
      · right; simpa using h
  · by_cases e : k = l
    · subst e
      simp [PHeap.upd] at hk
      subst hk
      exact World.putObj_heap_same (Nat.lt_of_lt_of_le hl hsz)
    · rw [World.putObj_heap_other e]
      exact hn.sees k o2 (by simpa [PHeap.upd, e] using hk)
/-- A block of which nothing is known turns alike ahead and behind. -/
theorem J.swap {u u1 : PHeap} {w' w1 : World} {β : Nat → Option Nat} {st : St} {a : Act} {l : Nat} {q : Loop} (h : J [] u w' β st u1 a w1) (hl : l < w'.heap.size) (h0 : u l = none) (hq : w1.heap[l]? = some (.loop q)) (b : Obj) :
    J [] u (w'.putObj l b) β st u1 a (w1.putObj l b) := by
  have h1 := h.nx.nloc hl h0
  refine ⟨h.tm, fun i c hc => ?_, h.dom, h.inj, h.nloc, fun i g hg => by simpa using h.old i g hg, ⟨h.nx.os, h.nx.tape, h.nx.output, by simpa using h.nx.size, fun k hk hk0 => ?_, fun k hk => by simpa using h.nx.fresh k hk, fun k o hk => ?_⟩, ⟨fun d hd => ?_, h.dfr.2⟩, fun _ h => (by cases h)⟩
  · obtain ⟨g, hg, hh⟩ := h.bx i c hc
    exact ⟨g, hg, by rw [World.putObj_heap_other (fun e => by rw [e, hq] at hh; cases hh)]; exact hh⟩
  · by_cases e : k = l
    · subst e
      rw [World.putObj_heap_same hl, World.putObj_heap_same (Nat.lt_of_lt_of_le hl h.nx.size)]
    · rw [World.putObj_heap_other e, World.putObj_heap_other e]
      exact h.nx.keep k (by simpa using hk) hk0
  · rw [World.putObj_heap_other (fun e => by rw [e, h1] at hk; cases hk)]
    exact h.sees k o hk
  · obtain ⟨D, e1, e2, e3, e4⟩ := (h.dfr.1 d hd).out
    exact ⟨D, e1, by rw [World.putObj_heap_other (fun e => by rw [e, hq] at e2; cases e2)]; exact e2, e3, by simpa using e4⟩
theorem sees_upd {H : PHeap} {w : World} {l : Nat} {o : Obj} (hs : Sees (H.upd l o) w) (h0 : H l = none) : Sees H w := fun k o' hk => hs k o' (by
  have : k ≠ l := fun e => by rw [e, h0] at hk; cases hk
  simpa [PHeap.upd, this] using hk)
theorem sees_at {H : PHeap} {w : World} {l : Nat} {o : Obj} (hs : Sees (H.upd l o) w) : w.heap[l]? = some o := hs l o (by simp [PHeap.upd])
theorem eachOf_get {K : Nat → Prop} : ∀ {l : List Nat}, eachOf K l → ∀ j ∈ l, K j
  | [], _, j, hj => by simp at hj
  | [i], h, j, hj => by simp at hj; subst hj; exact h
  | i :: k :: l, h, j, hj => by
    rcases List.mem_cons.1 hj with rfl | hj
    · exact h.1
    · exact eachOf_get h.2 j hj
theorem rangeFunc_sound {g : Operand} {ps : Array Tmp} {assign body : Code} {st : St} {H : PHeap} {Kn : St → PHeap → Prop} {Kx : Nat → St → PHeap → Prop} {Kr : St → PHeap → Prop} {Q : Exit → Act → World → Prop} {β : Nat → Option Nat} {a : Act} {w : World}
    (ihA : SoundAt cx P assign) (ihB : SoundAt cx P body) (h : vCode cx P (.rangeFunc g ps assign body) st H Kn Kx Kr) (hJ : J [] H0 w0 β st H a w) {W : List Tmp}
    (hn : HandsC H0 w0 β st.bx W a Kn (Q .normal)) (hx : ∀ j, HandsC H0 w0 β st.bx W a (Kx j) (Q (.exit j))) (hr : HandsC H0 w0 β st.bx W a Kr (Q .ret)) : (Code.rangeFunc g ps assign body).wpIn (RF none) 0 P Q a w := by
  simp only [vCode] at h
  split at h
  · rename_i gv tys hg hf
    split at h
    · rename_i zs hz hbx
      split at h
      · rename_i hpl
        simp only [Bool.and_eq_true, beq_iff_eq] at hpl
        obtain ⟨⟨hpa, hpb⟩, hsz⟩ := hpl
        obtain ⟨xs, Ji, X, Hr, hsub, hit, hfit, hJsub, hJ0, hround, hdone, hexit, hret⟩ := h
        have hgv : a.eval g = gv := hJ.tm.val hg
        have hβ : β = fun _ => none := funext fun i => hJ.dom i (by rw [hbx]; exact Nat.zero_le _)
        refine wpIn_rangeFunc fun fn _ => ?_
        generalize hrec : ({ state := .ready, pending := none, fn := fn, tmps := a.tmps, params := ps, assign := assign, body := body, defers := w.heap.size } : Loop) = rec0
        generalize hl0 : w.heap.size + 1 = l
        generalize hw1 : (w.alloc (.deferred (some []))).alloc (.loop rec0) = w1
        have hent : (Instr.enterLoop fn a.tmps ps assign body (RF none).round).run P w = .ok (l, [{ target := .collected w.heap.size, args := #[] }]) w1 := by
          rw [← hw1, ← hrec, ← hl0]; exact run_enterLoop_outer fn a.tmps ps assign body
        have hsz1 : w1.heap.size = w.heap.size + 2 := by rw [← hw1]; simp
        have hlt : l < w1.heap.size := by omega
        have w1l : w1.heap[l]? = some (.loop rec0) := by
          have := World.alloc_heap_new (w.alloc (.deferred (some []))) (.loop rec0)
          rw [hw1] at this
          rw [← this, ← hl0]; simp
        have w1D : w1.heap[w.heap.size]? = some (.deferred (some [])) := by
          rw [← hw1, heap_alloc _ _ (by simp)]; exact World.alloc_heap_new w _
        have w1k : ∀ k, k < w.heap.size → w1.heap[k]? = w.heap[k]? := fun k hk => by
          rw [← hw1, heap_alloc _ _ (by simp; omega), heap_alloc _ _ hk]
        have hno : ∀ k, w.heap.size ≤ k → H k = none := fun k hk => by
          cases hh : H k with
          | none => rfl
          | some o => have := hJ.sees.lt (k := k) (by rw [hh]; simp); omega
        have hHl : H l = none := hno l (by omega)
        have hs1 : Sees (H.upd l (.loop rec0)) w1 := by
          intro k o hk
          by_cases e : k = l
          · subst e; simp [PHeap.upd] at hk; subst hk; exact w1l
          · have hk' : H k = some o := by simpa [PHeap.upd, e] using hk
            rw [w1k k (hJ.sees.lt (by rw [hk']; simp))]
            exact hJ.sees k o hk'
        have hrec' := hrec.symm
        have hyield : ∀ (i : Nat) x H', xs[i]? = some x → (∃ u, Ji i u ∧ u l = none ∧ u w.heap.size = none ∧ H' = u.upd l (.loop rec0)) →
            CallY P (.func (.yield l) #[] #[]) x.toArray H' fun v H'' => (v = .bool true ∧ ∃ u, Ji (i + 1) u ∧ u l = none ∧ u w.heap.size = none ∧ H'' = u.upd l (.loop rec0)) ∨
              (v = .bool false ∧ ∃ c u, ((∃ j, c = Code.exit j ∧ j ∈ exitsC body ∧ X (j + 1) u) ∨ (c = .ret ∧ retsC body = true ∧ X 0 u)) ∧ u l = none ∧ u w.heap.size = none ∧ H'' = u.upd l (.loop { rec0 with state := .done, pending := some c })) := by
          rintro i x _ hxi ⟨u, hu, hul, huD, rfl⟩
          have hxl : x.length = ps.size := by rw [hsz, ← zerosOf_len hz]; exact fitVs_len (hfit.out x (List.mem_of_getElem? hxi))
          refine ⟨fun w' hs => .inr ⟨l, fn, (ps.zip x.toArray).foldl (fun tmps (t, a) => tmps.setIfInBounds t a) a.tmps, assign, body, ?_, roundIn_of_wpIn trivial ?_⟩⟩
          · have := run_yield (P := P) (args := x.toArray) (sees_at hs) (by rw [hrec']; simpa using hxl)
            rw [hrec'] at this
            simpa [Deferred.ofValue, invoke] using this
          · have hsu : Sees u w' := sees_upd hs hul
            have hwl := sees_at hs
            have hlw : l < w'.heap.size := (Array.getElem?_eq_some_iff.1 hwl).1
            have hv := allVs_get hround (hfit.out x (List.mem_of_getElem? hxi)) i u ⟨hxi⟩ hu
            have ht : TmOk (fun _ => none) (bindPs st (tys.map (opaqueT P)) ps.toList x) { tmps := (ps.zip x.toArray).foldl (fun tmps (t, a) => tmps.setIfInBounds t a) a.tmps, defers := [] } := by
              have h1 : TmOk (fun _ => none) st { tmps := a.tmps, defers := [] } := by
                have := hJ.tm; rw [hβ] at this; exact ⟨this.size, this.at_⟩
              have h2 := bindPs_ok ps.toList x (tys.map (opaqueT P)) h1 (by simpa using hxl)
              have e : (ps.toList.zip x).foldl (fun tmps (t, v) => tmps.setIfInBounds t v) a.tmps = (ps.zip x.toArray).foldl (fun tmps (t, a) => tmps.setIfInBounds t a) a.tmps := by
                rw [← Array.foldl_toList]; simp
              rw [← e]; exact h2
            have hJu : J [] u w' (fun _ => none) (bindPs st (tys.map (opaqueT P)) ps.toList x) u { tmps := (ps.zip x.toArray).foldl (fun tmps (t, a) => tmps.setIfInBounds t a) a.tmps, defers := [] } w' :=
              ⟨ht, by rw [bindPs_bx, hbx]; exact fun i c hc => by simp at hc, fun _ _ => rfl, fun _ _ _ h => by (cases h), fun _ _ h => by (cases h), fun _ _ h => by (cases h), Nx.refl hsu, ⟨fun d hd => by simp at hd, List.nodup_nil⟩, fun _ h => (by cases h)⟩
            refine ihA hv hpa hJu (fun _ _ _ h => h) ?_ (fun j β' st' H' a' w' hk _ _ _ => hk.elim) (fun β' st' H' a' w' hk _ _ _ => hk.elim)
            intro β1 st1 u1 a1 w2 hk1 hJ1 _ _
            have hw2l : w2.heap[l]? = some (.loop rec0) := by rw [hJ1.nx.keep l hlw hul]; exact hwl
            refine ⟨_, run_beginRound hw2l (by rw [hrec']), ?_⟩
            have hJb := hJ1.swap hlw hul hw2l (.loop { rec0 with state := .busy })
            have hDw : w.heap.size < w'.heap.size := by omega
            have fin : ∀ (u2 : PHeap) (w3 : World) (jump : Option Code), Nx u u2 (w'.putObj l (.loop { rec0 with state := .busy })) w3 → ∃ w4, (Instr.endRound l jump).run P w3 = .ok (.bool jump.isNone) w4 ∧
                Nx (u.upd l (.loop rec0)) (u2.upd l (.loop { rec0 with state := if jump.isNone then .ready else .done, pending := jump })) w' w4 ∧ u2 l = none ∧ u2 w.heap.size = none := by
              intro u2 w3 jump hn2
              have hl3 : w3.heap[l]? = some (.loop { rec0 with state := .busy }) := by
                rw [hn2.keep l (by simpa using hlw) hul]; exact World.putObj_heap_same hlw
              exact ⟨_, run_endRound jump hl3, updL_nx hn2 hlw hul, hn2.nloc (by simpa using hlw) hul, hn2.nloc (by simpa using hDw) huD⟩
            refine ihB hk1 hpb hJb (fun _ _ _ h => h) ?_ ?_ ?_
            · intro β2 st2 u2 a2 w3 hk2 hJ2 _ _
              obtain ⟨w4, h1, h2, h3, h4⟩ := fin u2 w3 none hJ2.nx
              refine ⟨_, w4, h1, _, _, rfl, h2, .inl ⟨rfl, u2, hk2, h3, h4, ?_⟩⟩
              rw [hrec']; rfl
            · intro j β2 st2 u2 a2 w3 hk2 hJ2 _ _
              split at hk2
              · rename_i hj
                obtain ⟨w4, h1, h2, h3, h4⟩ := fin u2 w3 (some (.exit j)) hJ2.nx
                exact ⟨_, w4, h1, _, _, rfl, h2, .inr ⟨rfl, _, u2, .inl ⟨j, rfl, by simpa using hj, hk2⟩, h3, h4, rfl⟩⟩
              · cases hk2
            · intro β2 st2 u2 a2 w3 hk2 hJ2 _ _
              split at hk2
              · rename_i hj
                obtain ⟨w4, h1, h2, h3, h4⟩ := fin u2 w3 (some .ret) hJ2.nx
                exact ⟨_, w4, h1, _, _, rfl, h2, .inr ⟨rfl, _, u2, .inr ⟨rfl, hj, hk2⟩, h3, h4, rfl⟩⟩
              · cases hk2
        have hc := (hit.out (.func (.yield l) #[] #[]) (fun i H' => ∃ u, Ji i u ∧ u l = none ∧ u w.heap.size = none ∧ H' = u.upd l (.loop rec0)) _ (H.upd l (.loop rec0)) ⟨H, hJ0, hHl, hno _ (Nat.le_refl _), rfl⟩ (by
          rintro i _ ⟨u, hu, hul, _, rfl⟩
          exact ⟨fun k o hk => by
            have h1 := (hJsub i u hu).le k o hk
            have : k ≠ l := fun e => by rw [e, hul] at h1; cases h1
            simpa [PHeap.upd, this] using h1⟩) hyield).out w1 hs1
        obtain ⟨f, args, hrun, hcalls⟩ := hc
        simp only [Sem.run_bind] at hrun
        cases hd : (Deferred.ofValue gv #[.func (.yield l) #[] #[]]).run P w1 with
        | halt x w' => rw [hd] at hrun; simp [Result.andThen] at hrun
        | ok d w1' =>
          rw [hd] at hrun
          simp only [Result.andThen_ok] at hrun
          refine ⟨l, _, w1, d, w1', f, args, w1, hent, ?_, fun _ _ => trivial, hrun, fun e => by simp [RF] at e, callsIn_rf _ (hcalls.mono ?_)⟩
          · have e1 : (#[Operand.const (.func (.yield l) #[] #[])]).map a.eval = #[.func (.yield l) #[] #[]] := by simp [Act.eval]
            have e : resolve a.eval (rangeCall g l) 0 = Deferred.ofValue gv #[.func (.yield l) #[] #[]] := by simp only [resolve, rangeCall, hgv, e1]
            rw [e]; exact hd
          · -- behind the loop
            have back : ∀ (u : PHeap) (q : Loop) (w3 : World), u l = none → u w.heap.size = none → q.state ≠ .busy → Nx (H.upd l (.loop rec0)) (u.upd l (.loop q)) w1 w3 → ∃ w4, (Instr.endLoop l).run P w3 = .ok q.pending w4 ∧
                J [] H0 w0 β st u { a with defers := [{ target := .collected w.heap.size, args := #[] }] ++ a.defers } w4 := by
              intro u q w3 hul huD hqb hn3
              have h3l : w3.heap[l]? = some (.loop q) := hn3.sees l _ (by simp [PHeap.upd])
              refine ⟨_, run_endLoop h3l hqb, ?_⟩
              have hnx : Nx H u w (w3.putObj l (.loop { q with state := .exhausted })) := by
                have hs13 := hn3.size
                refine ⟨hn3.os.trans (by rw [← hw1]; rfl), hn3.tape.trans (by rw [← hw1]; rfl), hn3.output.trans (by rw [← hw1]; rfl), by simp; omega, fun k hk hk0 => ?_, fun k hk => ?_, fun k o hk => ?_⟩
                · have hne : k ≠ l := by omega
                  rw [World.putObj_heap_other hne, hn3.keep k (by omega) (by simpa [PHeap.upd, hne] using hk0), w1k k hk]
                · have hne : k ≠ l := fun e => hk (by rw [e]; exact hul)
                  rcases hn3.fresh k (by simpa [PHeap.upd, hne] using hk) with h | h
                  · left; simpa [PHeap.upd, hne] using h
                  · right; omega
                · have hne : k ≠ l := fun e => by rw [e, hul] at hk; cases hk
                  rw [World.putObj_heap_other hne]
                  exact hn3.sees k o (by simpa [PHeap.upd, hne] using hk)
              have hJ' := hJ.step hnx
              have hDl : w.heap.size ≠ l := by omega
              have hD4 : (w3.putObj l (.loop { q with state := .exhausted })).heap[w.heap.size]? = some (.deferred (some [])) := by
                rw [World.putObj_heap_other hDl, hn3.keep _ (by omega) (by simpa [PHeap.upd, hDl] using hno _ (Nat.le_refl _))]; exact w1D
              refine ⟨⟨hJ'.tm.size, hJ'.tm.at_⟩, hJ'.bx, hJ'.dom, hJ'.inj, hJ'.nloc, hJ'.old, hJ'.nx, ⟨fun d hd => ?_, ?_⟩, fun _ h => (by cases h)⟩
              · rcases List.mem_cons.1 hd with rfl | hd
                · exact ⟨_, rfl, hD4, huD, hJ.nx.size⟩
                · exact hJ'.dfr.1 d hd
              · refine List.nodup_cons.2 ⟨fun hm => ?_, hJ'.dfr.2⟩
                obtain ⟨D', e1, e2, _⟩ := (hJ.dfr.1 _ hm).out
                injection e1 with e1 _
                injection e1 with e1
                have := (Array.getElem?_eq_some_iff.1 e2).1
                omega
            rintro e w3 ⟨v, H', rfl, hn3, hend⟩
            rcases hend with ⟨u, hu, hul, huD, rfl⟩ | ⟨c, u, hcu, hul, huD, rfl⟩
            · obtain ⟨w4, h1, hJ4⟩ := back u rec0 w3 hul huD (by rw [hrec']; simp) hn3
              refine ⟨_, w4, h1, ?_⟩
              have e : rec0.pending = none := by rw [hrec']
              rw [e]
              exact hn β st u _ w4 (hdone u hu) hJ4 (Ext.refl _ _) ⟨rfl, fun _ _ => rfl⟩
            · obtain ⟨w4, h1, hJ4⟩ := back u _ w3 hul huD (by simp) hn3
              refine ⟨_, w4, h1, ?_⟩
              rcases hcu with ⟨j, rfl, hj, hX⟩ | ⟨rfl, hrt, hX⟩
              · exact wpIn_exit (hx j β st u _ w4 (eachOf_get hexit j hj u hX) hJ4 (Ext.refl _ _) ⟨rfl, fun _ _ => rfl⟩)
              · rw [if_pos hrt] at hret
                exact wpIn_ret (hr β st u _ w4 (hret u hX) hJ4 (Ext.refl _ _) ⟨rfl, fun _ _ => rfl⟩)
      · cases h
    · cases h
  · cases h
theorem vCode_sound : ∀ (c : Code) {H0 : PHeap} {w0 : World} {r : Option Nat} {st : St} {H : PHeap} {Kn : St → PHeap → Prop} {Kx : Nat → St → PHeap → Prop} {Kr : St → PHeap → Prop} {Q : Exit → Act → World → Prop} {β : Nat → Option Nat} {a : Act} {w : World},
    vCode cx P c st H Kn Kx Kr → (r = none ∨ plainC c = true) → J [] H0 w0 β st H a w → (∀ ch a w, ¬ Q (.panic ch) a w) →
    HandsC H0 w0 β st.bx (writtenC c) a Kn (Q .normal) → (∀ j, HandsC H0 w0 β st.bx (writtenC c) a (Kx j) (Q (.exit j))) → HandsC H0 w0 β st.bx (writtenC c) a Kr (Q .ret) → c.wpIn (RF r) 0 P Q a w
  | .skip, H0, w0, r, st, H, Kn, Kx, Kr, Q, β, a, w, h, hl, hJ, hp, hn, hx, hr => wpIn_skip (hn β st H a w h hJ (Ext.refl _ _) (Kp.refl _ _))
  | .label _, H0, w0, r, st, H, Kn, Kx, Kr, Q, β, a, w, h, hl, hJ, hp, hn, hx, hr => wpIn_label (hn β st H a w h hJ (Ext.refl _ _) (Kp.refl _ _))
  | .exit id, H0, w0, r, st, H, Kn, Kx, Kr, Q, β, a, w, h, hl, hJ, hp, hn, hx, hr => wpIn_exit (hx id β st H a w h hJ (Ext.refl _ _) (Kp.refl _ _))
  | .ret, H0, w0, r, st, H, Kn, Kx, Kr, Q, β, a, w, h, hl, hJ, hp, hn, hx, hr => wpIn_ret (hr β st H a w h hJ (Ext.refl _ _) (Kp.refl _ _))
  | .region _ ops false, H0, w0, r, st, H, Kn, Kx, Kr, Q, β, a, w, h, hl, hJ, hp, hn, hx, hr => by
    simp only [vCode] at h
    refine wpIn_region (vOps_sound (dm := none) (β0 := β) (bx0 := []) (Hs := fun _ => none) (lc := true) textRuns ⟨fun _ => ⟨fun _ _ _ => trivial, fun _ _ => trivial⟩, fun h => by cases h⟩ (List.range ops.size) () h hJ rfl fun β' st' H' a' w' hk hJ' he hkp => ?_)
    exact hn β' st' H' a' w' hk hJ' he (hkp.mono fun t ht => writtenAt_range ops _ t ht)
  | .region _ ops true, H0, w0, r, st, H, Kn, Kx, Kr, Q, β, a, w, h, hl, hJ, hp, hn, hx, hr => by
    simp only [vCode] at h
    split at h
    · rename_i hd
      simp only [Bool.and_eq_true] at hd
      obtain ⟨Hs, hsub, hv⟩ := h
      have hJd := hJ.drew
      have hlen : (canon P ops ops.size (Array.replicate ops.size false)).length = ops.size := by
        have : ∀ (f : Nat) (x : Array Bool) (l : List Nat), drawOk P ops f x l = true → l.length = f := by
          intro f
          induction f with
          | zero => intro x l h; cases l with | nil => rfl | cons i is => simp [drawOk] at h
          | succ f ih => intro x l h; cases l with
            | nil => simp [drawOk] at h
            | cons i is => simp only [drawOk, Bool.and_eq_true] at h; simp [ih _ _ h.2]
        exact this _ _ _ hd.2
      obtain rfl : r = none := hl.resolve_right (by simp [plainC])
      refine wpIn_wide.2 ?_
      refine wp_region_any hd.1.1 (wpAny_of_L (T := DrawT ops β st.bx Hs) _ _ _ _ ?_)
      have := vOps_sound (dm := some ⟨Hs, st.bx, true⟩) (β0 := β) (bx0 := st.bx) (Hs := Hs) (lc := false) (drawRuns (Q := Q) (T := DrawT ops β st.bx Hs) hd.1.2 hp fun _ _ => .inl rfl) ⟨(fun h => by cases h), fun _ => ⟨fun _ _ _ h => h, fun _ _ h => h⟩⟩ _ (Array.replicate ops.size false) hv hJd ⟨rfl, ⟨rfl, fun _ _ h => h, fun _ _ h => h, hJd.bx, .inl ⟨rfl, rfl, hsub⟩⟩⟩
        (fun β' st' H' a' w' hk hJ' he hkp => hn β' st' H' a' w' hk hJ' he (hkp.mono fun t ht => writtenAt_range ops _ t ht)) closed_empty
      rw [hlen] at this
      exact this hd.2
    · split at h
      · rename_i hd
        simp only [Bool.and_eq_true] at hd
        obtain ⟨Hs, hsub, hv⟩ := h
        obtain rfl : r = none := hl.resolve_right (by simp [plainC])
        refine wpIn_wide.2 ?_
        refine wp_region_any hd.1.1.1 (wpAny_of_L (T := DrawT ops β st.bx Hs) _ _ _ _ ?_)
        exact fRegion_sound hd.1.1.2 hp hd.1.2 hd.2 hv hJ.drew hsub fun β' st' H' a' w' hk hJ' he hkp => hn β' st' H' a' w' hk hJ' he (hkp.mono fun t ht => writtenAt_range ops _ t ht)
      · cases h
  | .seq c d, H0, w0, r, st, H, Kn, Kx, Kr, Q, β, a, w, h, hl, hJ, hp, hn, hx, hr => by
    simp only [vCode] at h
    refine wpIn_seq (vCode_sound c h (hl.imp id fun e => by simp only [plainC, Bool.and_eq_true] at e; exact e.1) hJ (fun ch a w => hp ch a w) ?_ (fun j β' st' H' a' w' hk hJ' he hkp => hx j β' st' H' a' w' hk hJ' he (hkp.mono fun _ => mem_app_l)) (fun β' st' H' a' w' hk hJ' he hkp => hr β' st' H' a' w' hk hJ' he (hkp.mono fun _ => mem_app_l)))
    intro β' st' H' a' w' hk hJ' he hkp
    have t1 := hkp.mono (W' := writtenC c ++ writtenC d) fun _ => mem_app_l
    refine vCode_sound d hk (hl.imp id fun e => by simp only [plainC, Bool.and_eq_true] at e; exact e.2) hJ' hp ?_ ?_ ?_
    · exact fun β'' st'' H'' a'' w'' hk' hJ'' he' hkp' => hn β'' st'' H'' a'' w'' hk' hJ'' (he.trans he') (t1.trans (hkp'.mono fun _ => mem_app_r))
    · exact fun j β'' st'' H'' a'' w'' hk' hJ'' he' hkp' => hx j β'' st'' H'' a'' w'' hk' hJ'' (he.trans he') (t1.trans (hkp'.mono fun _ => mem_app_r))
    · exact fun β'' st'' H'' a'' w'' hk' hJ'' he' hkp' => hr β'' st'' H'' a'' w'' hk' hJ'' (he.trans he') (t1.trans (hkp'.mono fun _ => mem_app_r))
  | .cond x c d, H0, w0, r, st, H, Kn, Kx, Kr, Q, β, a, w, h, hl, hJ, hp, hn, hx, hr => by
    simp only [vCode] at h
    have hev := hJ.tm.ev x
    have hN : ∀ {st1 : St} {a1 : Act} {W : List Tmp} {K : St → PHeap → Prop} {F : Act → World → Prop}, a1 = a → st1.bx = st.bx → (∀ t, t ∈ W → t ∈ writtenC c ++ writtenC d) → HandsC H0 w0 β st.bx (writtenC c ++ writtenC d) a K F → HandsC H0 w0 β st1.bx W a1 K F := by
      intro st1 a1 W K F e1 e2 hW hh β' st' H' a' w' hk hJ' he hkp
      subst e1
      exact hh β' st' H' a' w' hk hJ' (by rw [← e2]; exact he) (hkp.mono hW)
    split at h
    · rename_i he
      rw [he] at hev
      exact wpIn_cond_true hev (vCode_sound c h (hl.imp id fun e => by simp only [plainC, Bool.and_eq_true] at e; exact e.1) hJ hp (hN rfl rfl (fun _ => mem_app_l) hn) (fun j => hN rfl rfl (fun _ => mem_app_l) (hx j)) (hN rfl rfl (fun _ => mem_app_l) hr))
    · rename_i he
      rw [he] at hev
      exact wpIn_cond_false hev (vCode_sound d h (hl.imp id fun e => by simp only [plainC, Bool.and_eq_true] at e; exact e.2) hJ hp (hN rfl rfl (fun _ => mem_app_r) hn) (fun j => hN rfl rfl (fun _ => mem_app_r) (hx j)) (hN rfl rfl (fun _ => mem_app_r) hr))
    · rename_i t he
      rw [he] at hev
      split at h
      · rename_i s1 s2 h1 h2
        have hpc : pCode P (.cond x c d) st = some { st with tm := mergeTm t (writtenC c ++ writtenC d) 0 st.tm s1.tm s2.tm } := by
          simp only [pCode, he, h1, h2]
        exact pCode_sound (.cond x c d) hpc hJ fun a' hJ' hk => hn β _ H a' w h hJ' (Ext.refl _ _) hk
      · cases t
        · exact wpIn_cond_false hev (vCode_sound d (h.2 rfl) (hl.imp id fun e => by simp only [plainC, Bool.and_eq_true] at e; exact e.2) (hJ.kbAt hev) hp (hN rfl (kbAt_bx _ _) (fun _ => mem_app_r) hn) (fun j => hN rfl (kbAt_bx _ _) (fun _ => mem_app_r) (hx j)) (hN rfl (kbAt_bx _ _) (fun _ => mem_app_r) hr))
        · exact wpIn_cond_true hev (vCode_sound c (h.1 rfl) (hl.imp id fun e => by simp only [plainC, Bool.and_eq_true] at e; exact e.1) (hJ.kbAt hev) hp (hN rfl (kbAt_bx _ _) (fun _ => mem_app_l) hn) (fun j => hN rfl (kbAt_bx _ _) (fun _ => mem_app_l) (hx j)) (hN rfl (kbAt_bx _ _) (fun _ => mem_app_l) hr))
    · cases h
  | .block id body, H0, w0, r, st, H, Kn, Kx, Kr, Q, β, a, w, h, hl, hJ, hp, hn, hx, hr => by
    simp only [vCode] at h
    split at h
    · refine wpIn_block (vCode_sound body h hl hJ (fun ch a w => hp ch a w) hn ?_ hr)
      intro j β' st' H' a' w' hk hJ' he hkp
      show Exit.inBlock id Q (.exit j) a' w'
      simp only [Exit.inBlock]
      by_cases e : j = id
      · rw [if_pos e] at hk ⊢; exact hn β' st' H' a' w' hk hJ' he hkp
      · rw [if_neg e] at hk ⊢; exact hx j β' st' H' a' w' hk hJ' he hkp
    · rename_i ts bts hf
      split at h
      · cases h
      rename_i bs hbs
      split at h
      · rename_i zs zb hz hb
        obtain ⟨R, hR, hv⟩ := h
        have meet : HandsC H0 w0 β (frozenSt bs st).bx (writtenC body) a (fun st' H' => carried (zs ++ zb) st' (ts.map (·.1)) bs st.bx.length fun l => R l H') (Q .normal) := by
          intro β' st' H' a' w' hk hJ' he hkp
          obtain ⟨l, hl, hfit, hRl⟩ := carried_get hk
          have hlike := (BxLike.refl st bs).ext (s1 := st) he
          obtain ⟨hJm, hrest⟩ := meet_J (W := writtenC body) (fvs := ts.map fun t => opaqueT P t.2) hJ hJ' he.beta hlike hkp hl
          obtain ⟨hlike', hlen, hfz⟩ := hrest
          exact hn β _ H' a' w' (allVs_get hR hfit H' hRl) hJm (Ext.of_like hlike' hfz (boxVals_fz bs hb)) hkp
        refine wpIn_block (vCode_sound body hv hl (hJ.frozen bs) (fun ch a w => hp ch a w) meet ?_ ?_)
        · intro j β' st' H' a' w' hk hJ' he hkp
          show Exit.inBlock id Q (.exit j) a' w'
          simp only [Exit.inBlock]
          by_cases e : j = id
          · rw [if_pos e] at hk ⊢; exact meet β' st' H' a' w' hk hJ' he hkp
          · rw [if_neg e] at hk ⊢
            exact hx j β' _ H' a' w' hk (hJ'.unfrozen st.bx) (Ext.unfrozen he.beta ((BxLike.refl st bs).ext (s1 := st) he) (boxVals_fz bs hb)) hkp
        · intro β' st' H' a' w' hk hJ' he hkp
          exact hr β' _ H' a' w' hk (hJ'.unfrozen st.bx) (Ext.unfrozen he.beta ((BxLike.refl st bs).ext (s1 := st) he) (boxVals_fz bs hb)) hkp
      · cases h
  | .loop body, H0, w0, r, st, H, Kn, Kx, Kr, Q, β, a, w, h, hl, hJ, hp, hn, hx, hr => by
    simp only [vCode] at h
    split at h
    · cases h
    · rename_i ts bts hf
      split at h
      · cases h
      rename_i bs hbs
      split at h
      · cases h
      · rename_i zs hzs
        obtain ⟨R, μ, hR0, hall⟩ := h
        have hfz0 := genVals_fz hzs
        obtain ⟨m1, m2, m3, m4⟩ := meet_J (W := writtenC body) (fvs := ts.map fun t => isFv (st.get t)) hJ hJ (fun _ _ h => h) (BxLike.refl st bs) (Kp.refl _ a) hzs
        refine wpIn_loop_ghost (fun n a1 w1 => ∃ l H1, fitVs zs l = true ∧ R l H1 ∧ μ l H1 = n ∧ J [] H0 w0 β (meetSt st (writtenC body) (ts.map fun t => isFv (st.get t)) ts bs l) H1 a1 w1 ∧ Kp (writtenC body) a a1 ∧
          BxLike st bs (meetSt st (writtenC body) (ts.map fun t => isFv (st.get t)) ts bs l).bx) (μ zs H) ⟨zs, H, fitVs_self zs, hR0, rfl, m1, Kp.refl _ _, m2⟩ ?_
        rintro n a1 w1 ⟨l, H1, hfit, hRl, rfl, hJ1, hk1, hlike⟩
        refine vCode_sound body (allVs_get hall hfit H1 hRl) hl (hJ1.frozen bs) (fun ch a w => hp ch a w) ?_ ?_ ?_
        · intro β' st' H' a' w' hk hJ' he hkp
          obtain ⟨l', hl', hfit', hR', hμ⟩ := carried_get hk
          obtain ⟨q1, q2, _, _⟩ := meet_J (W := writtenC body) (fvs := ts.map fun t => isFv (st.get t)) hJ hJ' he.beta (hlike.ext he) (hk1.trans hkp) hl'
          exact ⟨μ l' H', hμ.out, l', H', hfit', hR', rfl, q1, hk1.trans hkp, q2⟩
        · intro j β' st' H' a' w' hk hJ' he hkp
          exact hx j β' _ H' a' w' hk (hJ'.unfrozen st.bx) (Ext.unfrozen he.beta (hlike.ext he) hfz0) (hk1.trans hkp)
        · intro β' st' H' a' w' hk hJ' he hkp
          exact hr β' _ H' a' w' hk (hJ'.unfrozen st.bx) (Ext.unfrozen he.beta (hlike.ext he) hfz0) (hk1.trans hkp)
  | .rangeFunc g ps assign body, H0, w0, r, st, H, Kn, Kx, Kr, Q, β, a, w, h, hl, hJ, hp, hn, hx, hr => by
    obtain rfl : r = none := hl.resolve_right (by simp [plainC])
    exact rangeFunc_sound (fun h hc hJ hp hn hx hr => vCode_sound assign h (.inr hc) hJ hp hn hx hr) (fun h hc hJ hp hn hx hr => vCode_sound body h (.inr hc) hJ hp hn hx hr) h hJ hn hx hr
  | .scope _, _, _, _, _, _, _, _, _, _, _, _, _, h, _, _, _, _, _, _ => by simp [vCode] at h
  | .goto _, _, _, _, _, _, _, _, _, _, _, _, _, h, _, _, _, _, _, _ => by simp [vCode] at h
  | .refuse _, _, _, _, _, _, _, _, _, _, _, _, _, h, _, _, _, _, _, _ => by simp [vCode] at h

/-! ### A call -/
theorem entrySVs_conc (β : Nat → Option Nat) : ∀ (ts : List TypeId) (vs : List Value) (t : Nat) (sv : SV), (entrySVs P ts vs)[t]? = some sv → ∃ v, vs[t]? = some v ∧ sv.conc β v
  | [], vs, t, sv, h => by
    have h' : (vs.map SV.v)[t]? = some sv := by cases vs <;> exact h
    rw [List.getElem?_map] at h'
    cases hv : vs[t]? with
    | none => rw [hv] at h'; cases h'
    | some v => rw [hv] at h'; simp at h'; subst h'; exact ⟨v, rfl, rfl⟩
  | _ :: _, [], t, sv, h => by cases h
  | ty :: ts, v :: vs, 0, sv, h => by
    simp only [entrySVs, List.getElem?_cons_zero, Option.some.injEq] at h
    subst h
    exact ⟨v, rfl, by split <;> rfl⟩
  | ty :: ts, v :: vs, t + 1, sv, h => by
    simp only [entrySVs, List.getElem?_cons_succ] at h
    obtain ⟨u, hu, hc⟩ := entrySVs_conc β ts vs t sv h
    exact ⟨u, by rw [List.getElem?_cons_succ]; exact hu, hc⟩
theorem entrySVs_len : ∀ (ts : List TypeId) (vs : List Value), (entrySVs P ts vs).length = vs.length
  | [], vs => by cases vs <;> simp [entrySVs]
  | _ :: _, [] => by simp [entrySVs]
  | _ :: ts, v :: vs => by simp [entrySVs, entrySVs_len ts vs]
def resOne (tmps : Array Value) : ResultVar → Sem Value
  | .tmp t => pure (tmps.getD t undef)
  | .cell ad t => do loadVar t (← asAddr (tmps.getD ad undef))
theorem results_eq (fn : Func) (tmps : Array Value) : results fn tmps = (do let vs ← fn.results.mapM (resOne tmps); pure (if h : vs.size = 1 then vs[0] else .tuple vs)) := by
  unfold results
  congr 1
theorem resVals_run {β : Nat → Option Nat} {st : St} {H : PHeap} {a : Act} {w : World} (hJ : J [] H0 w0 β st H a w) : ∀ (rs : List ResultVar) {l : List Value}, resVals P st rs = some l →
    (rs.mapM (resOne a.tmps)).run P w = .ok l w
  | [], l, h => by simp [resVals] at h; subst h; simp
  | .tmp t :: rs, l, h => by
    simp only [resVals] at h
    split at h
    · rename_i v vs hv hvs
      obtain rfl := Option.some.inj h
      have := val_conc hv (hJ.tm.get t)
      simp only [List.mapM_cons, Sem.run_bind, Sem.run_pure, Result.andThen_ok, resOne, this, resVals_run hJ rs hvs]
    · cases h
  | .cell ad t :: rs, l, h => by
    simp only [resVals] at h
    split at h
    · rename_i b off he
      split at h
      · rename_i c cs hd
        split at h
        · rename_i v vs hv hvs
          obtain rfl := Option.some.inj h
          have hg := hJ.tm.get ad
          rw [he] at hg
          obtain ⟨g, hg, hx⟩ := hg
          obtain ⟨g', hg', hh⟩ := hJ.bx b c (drop_cons hd)
          rw [hg] at hg'
          obtain rfl := Option.some.inj hg'
          have hl := run_loadVar_cells (P := P) (w := w) hh hv
          have ha : (asAddr (a.tmps.getD ad undef)).run P w = .ok ⟨g, off, none⟩ w := by rw [hx]; rfl
          simp only [List.mapM_cons, Sem.run_bind, Sem.run_pure, Result.andThen_ok, resOne, ha, hl, resVals_run hJ rs hvs]
        · cases h
      · cases h
    · cases h
theorem vRet_sound {fn : Func} {QQ : Value → PHeap → Prop} {β : Nat → Option Nat} {st : St} {H : PHeap} {a : Act} {w : World} (hJ : J [] H0 w0 β st H a w) (h : vRet P fn QQ st H) :
    ∃ v, (results fn a.tmps).run P w = .ok v w ∧ QQ v H := by
  unfold vRet at h
  split at h
  · rename_i l hl
    refine ⟨_, ?_, h⟩
    have hr := resVals_run hJ fn.results.toList hl
    have hr' : (fn.results.mapM (resOne a.tmps)).run P w = .ok l.toArray w := by
      rw [← Array.toArray_toList (xs := fn.results), List.mapM_toArray]
      simp only [Sem.run_map, hr, Result.andThen_ok]
    rw [results_eq]
    simp only [Sem.run_bind, hr', Result.andThen_ok, Sem.run_pure]
    congr 1
    rcases l with _ | ⟨v, _ | ⟨u, l⟩⟩ <;> simp [retVal]
  · cases h
/-- The marks are taken up, one by one. -/
theorem marks_leave {fn : Func} {tmps : Array Value} {R : Ending → World → Prop} {H : PHeap} : ∀ (ds : List Deferred) {w : World}, (∀ d ∈ ds, MarkAt H w0 w d) → ds.Nodup →
    (∀ w' : World, w'.os = w.os → w'.tape = w.tape → w'.output = w.output → w'.heap.size = w.heap.size → (∀ k, w'.heap[k]? = w.heap[k]? ∨ (w.heap[k]? = some (.deferred (some [])) ∧ H k = none ∧ w0.heap.size ≤ k)) →
      ∃ v, (results fn tmps).run P w' = .ok v w' ∧ R (.returned v) w') → LeavesInM (RF none) 0 P fn tmps R ds .returning w
  | [], w, _, _, h => h w rfl rfl rfl rfl fun _ => .inl rfl
  | d :: ds, w, hm, hd, h => by
    obtain ⟨D, rfl, h1, h2, h3⟩ := (hm d (List.mem_cons_self ..)).out
    refine ⟨by simp, .inl ⟨D, _, rfl, run_takeDeferred h1, ?_⟩⟩
    refine marks_leave ds (fun d' hd' => (hm d' (List.mem_cons_of_mem _ hd')).out.elim fun D' ⟨e1, e2, e3, e4⟩ => ⟨D', e1, ?_, e3, e4⟩) (List.nodup_cons.1 hd).2 fun w' a1 a2 a3 a4 a5 => ?_
    · rw [World.putObj_heap_other (fun e => (List.nodup_cons.1 hd).1 (by rw [← e, ← e1]; exact hd'))]; exact e2
    · refine h w' a1 a2 a3 (by simpa using a4) fun k => ?_
      by_cases e : k = D
      · exact .inr (by rw [e]; exact ⟨h1, h2, h3⟩)
      · have := a5 k
        rwa [World.putObj_heap_other e] at this
theorem Triple.of_v {f : FuncId} {args : List Value} {H : PHeap} {QQ : Value → PHeap → Prop} (h : vFunc cx P f args H QQ) : Triple P f args.toArray H QQ := by
  constructor
  intro w hs
  unfold vFunc at h
  split at h
  · rename_i fn hf
    split at h
    · rename_i c hb
      have hJ : J [] H w (fun _ => none) { tm := entrySVs P fn.params.toList args ++ List.replicate (fn.ntmps - args.length) .unk, bx := [] } H { tmps := args.toArray ++ Array.replicate (fn.ntmps - args.toArray.size) undef, defers := [] } w := by
        refine ⟨⟨by simp [entrySVs_len], fun t sv hsv => ?_⟩, (fun i c hc => by simp at hc), (fun _ _ => rfl), (fun _ _ _ h => by cases h), (fun _ _ h => by cases h), (fun _ _ h => by cases h), Nx.refl hs, ⟨fun d hd => by simp at hd, List.nodup_nil⟩, fun _ h => (by cases h)⟩
        by_cases ht : t < args.length
        · rw [List.getElem?_append_left (by rw [entrySVs_len]; exact ht)] at hsv
          obtain ⟨v, hv, hc⟩ := entrySVs_conc (fun _ => none) _ _ t sv hsv
          have : (args.toArray ++ Array.replicate (fn.ntmps - args.toArray.size) undef).getD t undef = v := by
            rw [Array.getD_eq_getD_getElem?, Array.getElem?_append_left (by simpa using ht)]
            simp [hv]
          rw [this]; exact hc
        · rw [List.getElem?_append_right (by rw [entrySVs_len]; omega), List.getElem?_replicate] at hsv
          split at hsv
          · obtain rfl := Option.some.inj hsv; trivial
          · cases hsv
      have fin : ∀ (st' : St) (H' : PHeap) (a' : Act) (w' : World) (β' : Nat → Option Nat), vRet P fn QQ st' H' → J [] H w β' st' H' a' w' → LeavesInM (RF none) 0 P fn a'.tmps (fun e w' => ∃ v H', e = .returned v ∧ Nx H H' w w' ∧ QQ v H') a'.defers .returning w' := by
        intro st' H' a' w' β' hk hJ'
        refine marks_leave a'.defers hJ'.dfr.1 hJ'.dfr.2 fun w2 a1 a2 a3 a4 a5 => ?_
        have hJ2 : J [] H w β' st' H' { tmps := a'.tmps, defers := [] } w2 := by
          refine ⟨⟨hJ'.tm.size, hJ'.tm.at_⟩, fun i c hc => ?_, hJ'.dom, hJ'.inj, hJ'.nloc, hJ'.old, ⟨a1.trans hJ'.nx.os, a2.trans hJ'.nx.tape, a3.trans hJ'.nx.output, by rw [a4]; exact hJ'.nx.size, fun k hk hk0 => ?_, hJ'.nx.fresh, fun k o hk => ?_⟩, ⟨fun d hd => by simp at hd, List.nodup_nil⟩, fun _ h => (by cases h)⟩
          · obtain ⟨g, hg, hh⟩ := hJ'.bx i c hc
            refine ⟨g, hg, ?_⟩
            rcases a5 g with e | ⟨e, _⟩
            · rw [e]; exact hh
            · rw [hh] at e; cases e
          · rcases a5 k with e | ⟨_, _, e⟩
            · rw [e]; exact hJ'.nx.keep k hk hk0
            · omega
          · rcases a5 k with e | ⟨_, e, _⟩
            · rw [e]; exact hJ'.sees k o hk
            · rw [hk] at e; cases e
        obtain ⟨v, h2, h3⟩ := vRet_sound hJ2 hk
        exact ⟨v, h2, v, H', rfl, hJ2.nx, h3⟩
      refine callsIn_wide.1 (callsIn_of_wp_marks (F := RF none) (n := 0) hf hb trivial (wpIn_mono (Q := fun e a' w' => match e with
        | .normal | .ret => LeavesInM (RF none) 0 P fn a'.tmps (fun e w' => ∃ v H', e = .returned v ∧ Nx H H' w w' ∧ QQ v H') a'.defers .returning w'
        | _ => False) (vCode_sound c h (.inl rfl) hJ (fun ch a w hq => hq) ?_ ?_ ?_) ?_) rfl)
      · intro β' st' H' a' w' hk hJ' _ _
        exact fin st' H' a' w' β' hk hJ'
      · intro j β' st' H' a' w' hk _ _ _
        exact hk.elim
      · intro β' st' H' a' w' hk hJ' _ _
        exact fin st' H' a' w' β' hk hJ'
      · intro e a' w' hq
        cases e <;> first | exact hq | exact hq.elim
    · cases h
  · cases h
theorem Triple.of_vc {f : FuncId} {args : List Value} {H : PHeap} {QQ : Value → PHeap → Prop} {X : Prop} (cx : Cx) (he : vFunc cx P f args H QQ = X) (h : X) : Triple P f args.toArray H QQ := Triple.of_v (cx := cx) (he ▸ h)
end
end Go.Vx
