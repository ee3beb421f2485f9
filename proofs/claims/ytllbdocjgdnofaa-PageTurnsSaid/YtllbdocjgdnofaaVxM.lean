/- The executor's code: what is to be shown is enough. -/
import Derived.Test.YtllbdocjgdnofaaVxL
namespace Go.Vx
section
variable {P : Program} {β : Nat → Option Nat} {st : St} {a : Act} {w : World} {bx : List Box} {H H' H0 : PHeap} {w0 : World}
  {Q : Exit → Act → World → Prop} {cx : Cx}

/-! ### Where ways meet -/
theorem find?_zip : ∀ (bs : List Nat) {st : St} {vs : List Value}, boxVals st bs = some vs → ∀ i, find? i (zipBoxes bs vs) = if i ∈ bs then (st.bx[i]?).map (·.cells) else none
  | [], st, vs, h, i => by simp [boxVals] at h; subst h; simp [zipBoxes, find?]
  | b :: bs, st, vs, h, i => by
    simp only [boxVals] at h
    split at h
    · rename_i c cs vs' hd hv
      split at h
      · cases h
      · obtain rfl := Option.some.inj h
        have hb := drop_cons hd
        simp only [zipBoxes, find?, cellsL]
        by_cases e : b = i
        · subst e; simp [hb]
        · have : (b == i) = false := by simpa using e
          rw [if_neg (by simp [this]), find?_zip bs hv i]
          have e' : ¬ i = b := fun h => e h.symm
          simp [e']
    · cases h
theorem boxVals_fz : ∀ (bs : List Nat) {st : St} {vs : List Value}, boxVals st bs = some vs → ∀ i c, i ∈ bs → st.bx[i]? = some c → c.fz = false
  | [], _, _, _, _, _, h, _ => by cases h
  | b :: bs, st, vs, h, i, c, hm, hc => by
    simp only [boxVals] at h
    split at h
    · rename_i c' cs vs' hd hv
      split at h
      · cases h
      · rename_i hf
        rcases List.mem_cons.1 hm with rfl | hm
        · rw [drop_cons hd] at hc
          obtain rfl := Option.some.inj hc
          simpa using hf
        · exact boxVals_fz bs hv i c hm hc
    · cases h
theorem freezeBut_get (bs : List Nat) : ∀ (k : Nat) (l : List Box) (i : Nat), (freezeBut bs k l)[i]? = (l[i]?).map fun c => if bs.contains (k + i) then c else { c with fz := true }
  | _, [], i => by simp [freezeBut]
  | k, c :: cs, 0 => by simp [freezeBut]
  | k, c :: cs, i + 1 => by
    simp only [freezeBut, List.getElem?_cons_succ, freezeBut_get bs (k + 1) cs i]
    rw [show k + 1 + i = k + (i + 1) by omega]
theorem putBoxes_get (m : List (Nat × List Value)) : ∀ (k : Nat) (l : List Box) (i : Nat), (putBoxes m k l)[i]? = (l[i]?).map fun c => match find? (k + i) m with | some cells => { c with cells := cells } | none => c
  | _, [], i => by simp [putBoxes]
  | k, c :: cs, 0 => by simp only [putBoxes, List.getElem?_cons_zero, Option.map_some, Nat.add_zero]; cases find? k m <;> rfl
  | k, c :: cs, i + 1 => by
    simp only [putBoxes, List.getElem?_cons_succ, putBoxes_get m (k + 1) cs i]
    rw [show k + 1 + i = k + (i + 1) by omega]
theorem freezeBut_len (bs : List Nat) (l : List Box) : ∀ k, (freezeBut bs k l).length = l.length := by
  induction l with
  | nil => intro k; rfl
  | cons c cs ih => intro k; simp [freezeBut, ih]
theorem putBoxes_len (m : List (Nat × List Value)) (l : List Box) : ∀ k, (putBoxes m k l).length = l.length := by
  induction l with
  | nil => intro k; rfl
  | cons c cs ih => intro k; simp [putBoxes, ih]
theorem unfreeze_get : ∀ (cs ds : List Box) (i : Nat), (unfreeze cs ds)[i]? = (ds[i]?).map fun d => match cs[i]? with | some c => { d with fz := c.fz } | none => d
  | [], ds, i => by cases ds <;> simp [unfreeze]
  | _ :: _, [], i => by simp [unfreeze]
  | c :: cs, d :: ds, 0 => by simp [unfreeze]
  | c :: cs, d :: ds, i + 1 => by simpa [unfreeze] using unfreeze_get cs ds i
theorem unfreeze_len (cs ds : List Box) : (unfreeze cs ds).length = ds.length := by
  apply Nat.le_antisymm
  · rcases Nat.lt_or_ge ds.length (unfreeze cs ds).length with h | h
    · have := unfreeze_get cs ds ds.length
      rw [List.getElem?_eq_getElem h] at this
      simp at this
    · exact h
  · rcases Nat.lt_or_ge (unfreeze cs ds).length ds.length with h | h
    · have := unfreeze_get cs ds (unfreeze cs ds).length
      rw [List.getElem?_eq_getElem h] at this
      simp at this
    · exact h
theorem J.reBox {bx' : List Box} (h : J [] H0 w0 β st H a w) (hl : bx'.length = st.bx.length) (hb : ∀ (i : Nat) (c : Box), bx'[i]? = some c → ∃ d : Box, st.bx[i]? = some d ∧ c.cells = d.cells ∧ c.ty = d.ty) : J [] H0 w0 β { st with bx := bx' } H a w := by
  refine ⟨h.tm.bx _, fun i c hc => ?_, fun i hi => h.dom i (by simpa [hl] using hi), h.inj, h.nloc, h.old, h.nx, h.dfr, h.pnd⟩
  obtain ⟨d, hd, e1, e2⟩ := hb i c hc
  obtain ⟨g, hg, hh⟩ := h.bx i d hd
  exact ⟨g, hg, by rw [e1, e2]; exact hh⟩
theorem J.frozen (h : J [] H0 w0 β st H a w) (bs : List Nat) : J [] H0 w0 β (frozenSt bs st) H a w := by
  refine h.reBox (freezeBut_len bs _ 0) fun i c hc => ?_
  rw [freezeBut_get] at hc
  cases hd : st.bx[i]? with
  | none => rw [hd] at hc; cases hc
  | some d =>
    rw [hd] at hc
    simp only [Option.map_some, Option.some.injEq] at hc
    subst hc
    refine ⟨d, rfl, ?_⟩
    split <;> exact ⟨rfl, rfl⟩
theorem J.unfrozen (h : J [] H0 w0 β st H a w) (cs : List Box) : J [] H0 w0 β { st with bx := unfreeze cs st.bx } H a w := by
  refine h.reBox (unfreeze_len cs _) fun i c hc => ?_
  rw [unfreeze_get] at hc
  cases hd : st.bx[i]? with
  | none => rw [hd] at hc; cases hc
  | some d =>
    rw [hd] at hc
    simp only [Option.map_some, Option.some.injEq] at hc
    subst hc
    refine ⟨d, rfl, ?_⟩
    split <;> exact ⟨rfl, rfl⟩

theorem forget_get (W : List Tmp) : ∀ (k : Nat) (l : List SV) (i : Nat), (forget W k l)[i]? = (l[i]?).map fun x => if W.contains (k + i) then .unk else x
  | _, [], i => by simp [forget]
  | k, x :: xs, 0 => by simp [forget]
  | k, x :: xs, i + 1 => by
    simp only [forget, List.getElem?_cons_succ, forget_get W (k + 1) xs i]
    rw [show k + 1 + i = k + (i + 1) by omega]
theorem forget_len (W : List Tmp) (l : List SV) : ∀ k, (forget W k l).length = l.length := by
  induction l with
  | nil => intro k; rfl
  | cons c cs ih => intro k; simp [forget, ih]
theorem slotVals_len : ∀ (ts : List Tmp) {st : St} {vs : List Value}, slotVals st ts = some vs → vs.length = ts.length
  | [], _, _, h => by simp [slotVals] at h; subst h; rfl
  | t :: ts, st, vs, h => by
    simp only [slotVals] at h
    split at h
    · rename_i v vs' hv hvs; obtain rfl := Option.some.inj h; simp [slotVals_len ts hvs]
    · cases h
/-- The slots told hold what they are told to. -/
theorem setSlots_ok : ∀ (ts : List Tmp) (tm : List SV) (fvs : List Bool) (la lb : List Value) {st' : St} {β₂ : Nat → Option Nat}, TmOk β ⟨tm, bx⟩ a → TmOk β₂ st' a → slotVals st' ts = some la →
    TmOk β ⟨(setSlots tm fvs ts (la ++ lb)).1, bx⟩ a ∧ (setSlots tm fvs ts (la ++ lb)).2 = lb
  | [], tm, fvs, la, lb, st', _, ht, _, h => by
    simp [slotVals] at h
    subst h
    simp only [setSlots, List.nil_append]
    exact ⟨ht, trivial⟩
  | t :: ts, tm, fvs, la, lb, st', _, ht, ht', h => by
    simp only [slotVals] at h
    split at h
    · rename_i v vs hv hvs
      obtain rfl := Option.some.inj h
      have hget : a.tmps.getD t undef = v := val_conc hv (ht'.get t)
      have h1 := ht.setTm t (sv := .v v) hget
      have h2 := ht.setTm t (sv := .fv v) hget
      simp only [List.cons_append, setSlots]
      cases fvs with
      | nil => exact setSlots_ok ts _ [] vs lb h1 ht' hvs
      | cons f fs => cases f
                     · exact setSlots_ok ts _ fs vs lb h1 ht' hvs
                     · exact setSlots_ok ts _ fs vs lb h2 ht' hvs
    · cases h
theorem setSlots_len : ∀ (ts : List Tmp) (tm : List SV) (fvs : List Bool) (l : List Value), (setSlots tm fvs ts l).1.length = tm.length
  | [], tm, fvs, l => by simp [setSlots]
  | t :: ts, tm, fvs, [] => by simp [setSlots]
  | t :: ts, tm, [], v :: l => by simp [setSlots, setSlots_len ts]
  | t :: ts, tm, true :: fs, v :: l => by simp [setSlots, setSlots_len ts]
  | t :: ts, tm, false :: fs, v :: l => by simp [setSlots, setSlots_len ts]

/-- Of the boxes at the place where ways meet, held against those where the piece of code began. -/
def BxLike (st : St) (bs : List Nat) (bx' : List Box) : Prop :=
  ∀ (i : Nat) (c : Box), st.bx[i]? = some c → ∃ c' : Box, bx'[i]? = some c' ∧ c'.ty = c.ty ∧ c'.cells.length = c.cells.length ∧ (i ∉ bs → c'.cells = c.cells)
theorem meetSt_eq (st : St) (W : List Tmp) (fvs : List Bool) (ts : List Tmp) (bs : List Nat) (l : List Value) :
    meetSt st W fvs ts bs l = ⟨(setSlots (forget W 0 st.tm) fvs ts l).1, putBoxes (zipBoxes bs (setSlots (forget W 0 st.tm) fvs ts l).2) 0 st.bx⟩ := rfl
theorem genVals_split {st' : St} {ts : List Tmp} {bs : List Nat} {l : List Value} (h : genVals st' ts bs = some l) : ∃ la lb, l = la ++ lb ∧ slotVals st' ts = some la ∧ boxVals st' bs = some lb := by
  unfold genVals at h
  split at h
  · rename_i la lb h1 h2; exact ⟨la, lb, (Option.some.inj h).symm, h1, h2⟩
  · cases h
/-- A way comes to where ways meet: the state there holds. 'st', 'a0': where the piece of code began; 'st'', 'a'': where the way comes. -/
theorem meet_J {st' : St} {β' : Nat → Option Nat} {a' : Act} {W : List Tmp} {fvs : List Bool} {ts : List Tmp} {bs : List Nat} {l : List Value} {a0 : Act} {H'' : PHeap} {w'' : World}
    (h0 : J [] H0 w0 β st H a0 w) (hJ : J [] H0 w0 β' st' H'' a' w'') (hβ : ∀ i g, β i = some g → β' i = some g) (hh : BxLike st bs st'.bx) (hkp : Kp W a0 a') (hl : genVals st' ts bs = some l) :
    J [] H0 w0 β (meetSt st W fvs ts bs l) H'' a' w'' ∧ BxLike st bs (meetSt st W fvs ts bs l).bx ∧ (meetSt st W fvs ts bs l).bx.length = st.bx.length ∧
      ∀ (i : Nat) (c d : Box), st.bx[i]? = some c → (meetSt st W fvs ts bs l).bx[i]? = some d → d.fz = c.fz := by
  obtain ⟨la, lb, rfl, hla, hlb⟩ := genVals_split hl
  have ht0 : TmOk β ⟨forget W 0 st.tm, st.bx⟩ a' := by
    refine ⟨by rw [hkp.size, h0.tm.size]; simp [forget_len], fun t sv hsv => ?_⟩
    rw [forget_get] at hsv
    cases e : st.tm[t]? with
    | none => rw [e] at hsv; cases hsv
    | some x =>
      rw [e] at hsv
      simp only [Option.map_some, Nat.zero_add, Option.some.injEq] at hsv
      subst hsv
      split
      · trivial
      · rename_i hn
        rw [hkp.at_ t (by simpa using hn)]
        exact h0.tm.at_ t x e
  obtain ⟨k1, k2⟩ := setSlots_ok (bx := st.bx) ts (forget W 0 st.tm) fvs la lb ht0 hJ.tm hla
  have hbx : ∀ (i : Nat), (meetSt st W fvs ts bs (la ++ lb)).bx[i]? = (st.bx[i]?).map fun c => if i ∈ bs then { c with cells := ((st'.bx[i]?).map (·.cells)).getD c.cells } else c := by
    intro i
    rw [meetSt_eq]
    simp only [k2]
    rw [putBoxes_get, Nat.zero_add, find?_zip bs hlb i]
    cases hc : st.bx[i]? with
    | none => rfl
    | some c =>
      simp only [Option.map_some, Option.some.injEq]
      by_cases hm : i ∈ bs
      · obtain ⟨c', hc', _⟩ := hh i c hc
        simp [hm, hc']
      · simp [hm]
  have hlen : (meetSt st W fvs ts bs (la ++ lb)).bx.length = st.bx.length := by rw [meetSt_eq]; exact putBoxes_len _ _ 0
  refine ⟨⟨by rw [meetSt_eq]; exact k1.bx _, fun i d hd => ?_, fun i hi => h0.dom i (by rw [hlen] at hi; exact hi), h0.inj, fun i g hg => hJ.nloc i g (hβ i g hg), h0.old, hJ.nx, hJ.dfr, fun _ h => (by cases h)⟩, fun i c hc => ?_, hlen, fun i c d hc hd => ?_⟩
  · rw [hbx i] at hd
    cases hc : st.bx[i]? with
    | none => rw [hc] at hd; cases hd
    | some c =>
      rw [hc] at hd
      simp only [Option.map_some, Option.some.injEq] at hd
      obtain ⟨c', hc', hty, hle, hfz⟩ := hh i c hc
      obtain ⟨g, hg, _⟩ := h0.bx i c hc
      obtain ⟨g', hg', hheap⟩ := hJ.bx i c' hc'
      rw [hβ i g hg] at hg'
      obtain rfl := Option.some.inj hg'
      refine ⟨g, hg, ?_⟩
      rw [hheap, hty]
      by_cases hm : i ∈ bs
      · rw [if_pos hm, hc'] at hd; subst hd; rfl
      · rw [if_neg hm] at hd; subst hd; rw [hfz hm]
  · obtain ⟨c', hc', hty, hle, hfz⟩ := hh i c hc
    rw [hbx i, hc]
    simp only [Option.map_some]
    by_cases hm : i ∈ bs
    · exact ⟨_, rfl, by rw [if_pos hm], by rw [if_pos hm, hc']; simpa using hle, fun h => absurd hm h⟩
    · exact ⟨_, rfl, by rw [if_neg hm], by rw [if_neg hm], fun _ => by rw [if_neg hm]⟩
  · rw [hbx i, hc] at hd
    simp only [Option.map_some, Option.some.injEq] at hd
    subst hd
    split <;> rfl
theorem BxLike.refl (st : St) (bs : List Nat) : BxLike st bs st.bx := fun _ c hc => ⟨c, hc, rfl, rfl, fun _ => rfl⟩
/-- What an extension of the frozen boxes at the head says. -/
theorem BxLike.ext {s1 : St} {bs : List Nat} {β' : Nat → Option Nat} {bx' : List Box} (h : BxLike st bs s1.bx) (he : Ext β (frozenSt bs s1).bx β' bx') : BxLike st bs bx' := by
  intro i c hc
  obtain ⟨d, hd, e1, e2, e3⟩ := h i c hc
  have hf : (frozenSt bs s1).bx[i]? = some (if bs.contains (0 + i) then d else { d with fz := true }) := by
    show (freezeBut bs 0 s1.bx)[i]? = _
    rw [freezeBut_get, hd]; rfl
  obtain ⟨c', h1, h2, h3, h4, h5⟩ := he.box i _ hf
  refine ⟨c', h1, ?_, ?_, fun hm => ?_⟩
  · rw [h2, ← e1]; split <;> rfl
  · rw [h4, ← e2]; split <;> rfl
  · have hn : bs.contains (0 + i) = false := by simpa using hm
    rw [← e3 hm]
    have := h5 (by rw [hn]; rfl)
    rw [this, hn]; rfl
theorem Ext.unfrozen {bs : List Nat} {β' : Nat → Option Nat} {bx' : List Box} (hβ : ∀ i g, β i = some g → β' i = some g) (hl : BxLike st bs bx') (hf : ∀ i c, i ∈ bs → st.bx[i]? = some c → c.fz = false) : Ext β st.bx β' (unfreeze st.bx bx') := by
  refine ⟨hβ, fun i c hc => ?_⟩
  obtain ⟨c', h1, h2, h3, h4⟩ := hl i c hc
  refine ⟨{ c' with fz := c.fz }, by rw [unfreeze_get, h1]; simp [hc], h2, rfl, h3, fun hz => h4 fun hm => ?_⟩
  rw [hf i c hm hc] at hz
  cases hz
theorem allLeaf_get {z v : Value} {K : Value → Prop} (h : allLeaf z K) (hf : fitLeaf z v = true) : K v := by
  cases z <;> cases v <;> simp only [fitLeaf, Bool.false_eq_true] at hf <;> simp only [allLeaf] at h <;> first
    | (obtain rfl := sameK_eq hf; exact h _)
    | exact h _ _ _
    | exact h _
theorem allLs_get : ∀ {zs l : List Value} {K : List Value → Prop}, allLs zs K → fitLs zs l = true → K l
  | [], [], K, h, _ => h
  | z :: zs, v :: l, K, h, hf => by
    simp only [fitLs, Bool.and_eq_true] at hf
    exact allLs_get (K := fun l => K (v :: l)) (allLeaf_get (K := fun v => allLs zs fun l => K (v :: l)) h hf.1) hf.2
  | [], _ :: _, _, _, hf => by simp [fitLs] at hf
  | _ :: _, [], _, _, hf => by simp [fitLs] at hf
theorem allV_get {z v : Value} {K : Value → Prop} (h : allV z K) (hf : fitV z v = true) : K v := by
  cases z
  case agg cs =>
    cases v <;> simp only [fitV, Bool.false_eq_true] at hf
    simp only [allV] at h
    exact allLs_get (K := fun l => K (.agg l.toArray)) h hf
  all_goals exact allLeaf_get (by simpa only [allV] using h) (by simpa only [fitV] using hf)
theorem allVs_get : ∀ {zs l : List Value} {K : List Value → Prop}, allVs zs K → fitVs zs l = true → K l
  | [], [], K, h, _ => h
  | z :: zs, v :: l, K, h, hf => by
    simp only [fitVs, Bool.and_eq_true] at hf
    exact allVs_get (K := fun l => K (v :: l)) (allV_get (K := fun v => allVs zs fun l => K (v :: l)) h hf.1) hf.2
  | [], _ :: _, _, _, hf => by simp [fitVs] at hf
  | _ :: _, [], _, _, hf => by simp [fitVs] at hf
theorem sameK_self (k : IntKind) : sameK k k = true := by cases k <;> rfl
theorem fitLeaf_self (v : Value) : fitLeaf v v = true := by cases v <;> simp [fitLeaf, sameK_self]
theorem fitLs_self : ∀ l : List Value, fitLs l l = true
  | [] => rfl
  | v :: l => by simp [fitLs, fitLeaf_self, fitLs_self l]
theorem fitV_self (v : Value) : fitV v v = true := by cases v <;> simp [fitV, fitLs_self, fitLeaf_self]
theorem fitVs_self : ∀ l : List Value, fitVs l l = true
  | [] => rfl
  | v :: l => by simp [fitVs, fitV_self, fitVs_self l]
end
end Go.Vx
