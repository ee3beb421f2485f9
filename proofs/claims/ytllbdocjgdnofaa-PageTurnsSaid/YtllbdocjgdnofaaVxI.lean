/- The executor's lists of operations: in the order of the text, or in an order that is drawn. -/
import Derived.Test.YtllbdocjgdnofaaVxQ
namespace Go.Vx
section
variable {P : Program} {β : Nat → Option Nat} {st : St} {a : Act} {w : World} {bx : List Box}

/-- What an operation must do, in whatever frame; where an order is drawn, as everywhere. -/
structure OpOk (P : Program) (r : Option Nat) (lc : Bool) (o : Oper) (a : Act) (w : World) (next : Act → World → Prop) (Q : Exit → Act → World → Prop) : Prop where
  inn : o.wpIn (RF r) 0 P a w next Q
  plain : lc = false → o.wp P a w next Q
/-- A way to run a list of a region's operations: 'S0' is kept by each of them; 'Adm' tells which classes of worlds may be used for an operation that leaves the heap alone. -/
structure Runs (P : Program) (r : Option Nat) (ops : Array Oper) (Q : Exit → Act → World → Prop) {ι : Type} (lc : Bool) (T : Nat → World → World → Prop) (Adm : Nat → (World → Prop) → Prop) (W : ι → List Nat → Act → World → Prop) : Prop where
  nil : ∀ x a w, Q .normal a w → W x [] a w
  quiet : ∀ x i is o a w y, ops[i]? = some o → quietOp P o = true → ∀ S : World → Prop, Adm i S → S w → YieldsIf P ops S o y a → (∀ x', W x' is (a.put o.dst y) w) → W x (i :: is) a w
  skip : ∀ x i is o a w, ops[i]? = some o → Region.wanted o (yielded ops a.tmps) = false → (∀ x', W x' is (a.put o.dst undef) w) → W x (i :: is) a w
  eff : ∀ x i is o a w, ops[i]? = some o → quietOp P o = false → Region.wanted o (yielded ops a.tmps) = true → OpOk P r lc o a w (fun a' w' => T i w w' ∧ ∀ x', W x' is a' w') Q → W x (i :: is) a w

theorem dstOf_eq {ops : Array Oper} {j : Nat} : dstOf ops j = (ops[j]?).bind (·.dst) := by
  unfold dstOf; cases ops[j]? <;> rfl
theorem getD_some {tmps : Array Value} {t : Nat} {b : Bool} (h : tmps.getD t undef = .bool b) : tmps[t]? = some (.bool b) := by
  rw [Array.getD_eq_getD_getElem?] at h
  cases e : tmps[t]? with
  | none => rw [e] at h; simp [undef] at h
  | some v => rw [e] at h; simp at h; rw [h]
theorem wanted_none {ops : Array Oper} {o : Oper} {w0 : Bool} (h : guardSlot ops o = some (none, w0)) (tmps : Array Value) : Region.wanted o (yielded ops tmps) = true := by
  unfold guardSlot at h
  unfold Region.wanted
  split at h
  · rename_i hg; rw [hg]
  · split at h <;> simp at h
theorem wanted_bool {ops : Array Oper} {o : Oper} {t : Tmp} {want b : Bool} (h : guardSlot ops o = some (some t, want)) {tmps : Array Value} (hb : tmps.getD t undef = .bool b) : Region.wanted o (yielded ops tmps) = (b == want) := by
  unfold guardSlot at h
  unfold Region.wanted
  split at h
  · simp at h
  · rename_i j wnt hg
    split at h
    · rename_i t' hd
      simp only [Option.some.injEq, Prod.mk.injEq] at h
      obtain ⟨rfl, rfl⟩ := h
      rw [dstOf_eq] at hd
      simp only [hg, yielded, hd, Option.bind_some, getD_some hb]
      cases b <;> cases wnt <;> rfl
    · cases h
theorem wanted_tuple {ops : Array Oper} {o : Oper} {t : Tmp} {want : Bool} {vs : Array Value} (h : guardSlot ops o = some (some t, want)) {tmps : Array Value} (hb : tmps.getD t undef = .tuple vs) : Region.wanted o (yielded ops tmps) = false := by
  unfold guardSlot at h
  unfold Region.wanted
  split at h
  · simp at h
  · rename_i j wnt hg
    split at h
    · rename_i t' hd
      simp only [Option.some.injEq, Prod.mk.injEq] at h
      obtain ⟨rfl, rfl⟩ := h
      rw [dstOf_eq] at hd
      simp only [hg, yielded, hd, Option.bind_some]
      rw [Array.getD_eq_getD_getElem?] at hb
      cases e : tmps[t']? with
      | none => simp
      | some v => rw [e] at hb; simp at hb; subst hb; simp
    · cases h
theorem pure1_sound {o : Oper} {sv : SV} (h : pure1 P bx st o = some sv) (ht : TmOk β st a) : quietOp P o = true ∧ Ylds P β bx a o sv := by
  unfold pure1 at h
  split at h
  · rename_i hq
    split at h
    · rename_i sv' hp
      obtain rfl := Option.some.inj h
      exact ⟨hq, pOp_sound ht hp (fun p hp => by cases hp)⟩
    · cases h
  · cases h
theorem put_len (d : Option Tmp) (sv : SV) : (st.put d sv).tm.length = st.tm.length := by cases d <;> simp [St.put]
theorem kbAt_len (x : Operand) (b : Bool) : (st.kbAt x b).tm.length = st.tm.length := by cases x <;> simp [St.kbAt]
theorem pOps_len {ops : Array Oper} : ∀ (l : List Nat) {st st' : St}, pOps P bx ops l st = some st' → st'.tm.length = st.tm.length
  | [], st, st', h => by simp [pOps] at h; rw [h]
  | i :: is, st, st', h => by
    rw [pOps] at h
    split at h
    · cases h
    · rename_i o ho
      split at h
      · cases h
      · split at h
        · rw [pOps_len is h, put_len]
        · cases h
      · rename_i t want hg
        split at h
        · split at h
          · split at h
            · rw [pOps_len is h, put_len]
            · cases h
          · rw [pOps_len is h, put_len]
        · split at h
          · split at h
            · obtain rfl := Option.some.inj h
              cases want <;> simp [mergeTm_len]
            · cases h
          · cases h
        · rw [pOps_len is h, put_len]
        · cases h
theorem pOps_bx {ops : Array Oper} : ∀ (l : List Nat) {st st' : St}, pOps P bx ops l st = some st' → st'.bx = st.bx
  | [], st, st', h => by simp [pOps] at h; rw [h]
  | i :: is, st, st', h => by
    rw [pOps] at h
    split at h
    · cases h
    · rename_i o ho
      split at h
      · cases h
      · split at h
        · rw [pOps_bx is h, put_bx]
        · cases h
      · rename_i t want hg
        split at h
        · split at h
          · split at h
            · rw [pOps_bx is h, put_bx]
            · cases h
          · rw [pOps_bx is h, put_bx]
        · split at h
          · split at h
            · obtain rfl := Option.some.inj h
              rfl
            · cases h
          · cases h
        · rw [pOps_bx is h, put_bx]
        · cases h
theorem put_other {d : Option Tmp} {y : Value} {t : Tmp} (h : d ≠ some t) : (a.put d y).tmps.getD t undef = a.tmps.getD t undef := by
  cases d with
  | none => rfl
  | some d =>
    have hne : d ≠ t := fun e => h (by rw [e])
    simp only [Act.put]
    rw [Array.getD_eq_getD_getElem?, Array.getElem?_setIfInBounds_ne hne, ← Array.getD_eq_getD_getElem?]
theorem put_defers (d : Option Tmp) (y : Value) : (a.put d y).defers = a.defers := by cases d <;> rfl

/-- What holds of an act that only such operations have turned. -/
structure Turned (β : Nat → Option Nat) (st' : St) (l : List Tmp) (a a' : Act) : Prop where
  tm : TmOk β st' a'
  dfr : a'.defers = a.defers
  keep : ∀ t, t ∉ l → a'.tmps.getD t undef = a.tmps.getD t undef
theorem Turned.step {st' : St} {ops : Array Oper} {i : Nat} {is : List Nat} {o : Oper} {a' : Act} {y : Value} (ho : ops[i]? = some o) (h : Turned β st' (writtenAt ops is) (a.put o.dst y) a') : Turned β st' (writtenAt ops (i :: is)) a a' := by
  refine ⟨h.tm, by rw [h.dfr, put_defers], fun t ht => ?_⟩
  have hd : dstOf ops i = o.dst := by simp [dstOf, ho]
  simp only [writtenAt] at ht
  rw [hd] at ht
  cases e : o.dst with
  | none =>
    rw [e] at ht
    simp only at ht
    rw [h.keep t ht, put_other (by rw [e]; simp)]
  | some d =>
    rw [e] at ht
    simp only [List.mem_cons, not_or] at ht
    rw [h.keep t ht.2, put_other (by rw [e]; simp; exact fun e => ht.1 e.symm)]

theorem pOps_sound {r : Option Nat} {lc : Bool} {ops : Array Oper} {Q : Exit → Act → World → Prop} {ι : Type} {T : Nat → World → World → Prop} {Adm : Nat → (World → Prop) → Prop} {W : ι → List Nat → Act → World → Prop} (hR : Runs P r ops Q lc T Adm W)
    {S : World → Prop} (hA : ∀ i, Adm i S) (hS : ∀ w', S w' → BxOk β bx w') (hw : S w) : ∀ (l : List Nat) {st st' : St} {a : Act} (x : ι), pOps P bx ops l st = some st' → TmOk β st a →
      (∀ a', Turned β st' (writtenAt ops l) a a' → Q .normal a' w) → W x l a w
  | [], st, st', a, x, h, ht, hQ => by
    simp [pOps] at h
    subst h
    exact hR.nil x a w (hQ a ⟨ht, rfl, fun _ _ => rfl⟩)
  | i :: is, st, st', a, x, h, ht, hQ => by
    have go : ∀ {st1 : St} {o : Oper} {sv : SV} {s' : St}, ops[i]? = some o → TmOk β st1 a → Region.wanted o (yielded ops a.tmps) = true → pure1 P bx st1 o = some sv → pOps P bx ops is (st1.put o.dst sv) = some s' →
        (∀ a', Turned β s' (writtenAt ops (i :: is)) a a' → Q .normal a' w) → W x (i :: is) a w := by
      intro st1 o sv s' ho ht1 hwn hp hh hq
      obtain ⟨hqt, y, hc, hr⟩ := pure1_sound hp ht1
      refine hR.quiet x i is o a w y ho hqt S (hA i) hw (.inl ⟨hwn, fun w' hs => hr w' (hS w' hs)⟩) fun x' => ?_
      exact pOps_sound hR hA hS hw is x' hh (ht1.put o.dst hc) fun a' ha' => hq a' (ha'.step ho)
    have goSkip : ∀ {st1 : St} {o : Oper} {s' : St}, ops[i]? = some o → TmOk β st1 a → Region.wanted o (yielded ops a.tmps) = false → pOps P bx ops is (st1.put o.dst (.v undef)) = some s' →
        (∀ a', Turned β s' (writtenAt ops (i :: is)) a a' → Q .normal a' w) → W x (i :: is) a w := by
      intro st1 o s' ho ht1 hwn hh hq
      refine hR.skip x i is o a w ho hwn fun x' => ?_
      exact pOps_sound hR hA hS hw is x' hh (ht1.put o.dst rfl) fun a' ha' => hq a' (ha'.step ho)
    rw [pOps] at h
    split at h
    · cases h
    · rename_i o ho
      split at h
      · cases h
      · rename_i w0 hg
        split at h
        · rename_i sv hp
          exact go ho ht (wanted_none hg _) hp h hQ
        · cases h
      · rename_i t want hg
        have hget := ht.get t
        split at h
        · rename_i b hb
          rw [hb] at hget
          have hwb := wanted_bool hg hget
          split at h
          · rename_i he
            split at h
            · rename_i sv hp
              exact go ho ht (by rw [hwb, he]) hp h hQ
            · cases h
          · rename_i he
            exact goSkip ho ht (by rw [hwb, he]) h hQ
        · rename_i b hb
          rw [hb] at hget
          have hwb := wanted_bool hg hget
          split at h
          · rename_i sv hp
            split at h
            · rename_i s1 s2 h1 h2
              obtain rfl := Option.some.inj h
              have l1 := pOps_len is h1
              have l2 := pOps_len is h2
              rw [put_len, kbAt_len] at l1 l2
              by_cases he : b = want
              · subst he
                refine go ho (ht.kbAt (x := .tmp t) hget) (by rw [hwb]; simp) hp h1 fun a' ha' => hQ a' ⟨?_, ha'.dfr, ha'.keep⟩
                cases b
                · exact ht.merge (c := false) l2 l1 ha'.keep ha'.tm
                · exact ht.merge (c := true) l1 l2 ha'.keep ha'.tm
              · have hb' : b = !want := by cases b <;> cases want <;> simp_all
                have hget' : a.eval (.tmp t) = .bool (!want) := by rw [← hb']; exact hget
                refine goSkip ho (ht.kbAt (x := .tmp t) hget') (by rw [hwb, hb']; cases want <;> rfl) h2 fun a' ha' => hQ a' ⟨?_, ha'.dfr, ha'.keep⟩
                rw [hb']
                cases want
                · exact ht.merge (c := true) l2 l1 ha'.keep ha'.tm
                · exact ht.merge (c := false) l1 l2 ha'.keep ha'.tm
            · cases h
          · cases h
        · rename_i vs hb
          rw [hb] at hget
          exact goSkip ho ht (wanted_tuple hg hget) h hQ
        · cases h
end
end Go.Vx
