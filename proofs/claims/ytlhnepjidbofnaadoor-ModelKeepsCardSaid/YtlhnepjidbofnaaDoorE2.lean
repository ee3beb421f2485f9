/- The executor, part 2: what it asks is enough. -/
import Derived.Test.YtlhnepjidbofnaaDoorE1
import Derived.KernelRfl
import Derived.Scope
/- Regions whose order is drawn: a condition behind each operation; a load may be taken first where no operation that may come ahead of it breaks what it looks at. -/
namespace Go.Vx
section
variable {P : Program} {ops : Array Oper} {Q : Exit → Act → World → Prop}

/-- All that is listed has what it waits for listed. -/
def Closed (ops : Array Oper) (listed : Array Bool) : Prop := ∀ j o, ops[j]? = some o → listed.getD j true = true → ∀ p ∈ predsOf o, listed.getD p false = true
theorem predsOf_mem {o : Oper} {p : Nat} (h : p ∈ predsOf o) : ∃ e ∈ o.after, Region.binds .any e = true ∧ e.on = p := by
  unfold predsOf at h
  simp only [List.mem_map, List.mem_filter] at h
  obtain ⟨e, ⟨h1, h2⟩, h3⟩ := h
  exact ⟨e, by simpa using h1, h2, h3⟩
theorem mem_preds {o : Oper} {e : Edge} (h : e ∈ o.after) (hb : Region.binds .any e = true) : e.on ∈ predsOf o := by
  unfold predsOf
  exact List.mem_map.2 ⟨e, List.mem_filter.2 ⟨by simpa using h, hb⟩, rfl⟩
theorem closed_empty : Closed ops (Array.replicate ops.size false) := by
  intro j o ho hj
  have hlt := (Array.getElem?_eq_some_iff.1 ho).1
  rw [Array.getD_eq_getD_getElem?, Array.getElem?_replicate, if_pos hlt] at hj
  cases hj
theorem closed_set {listed : Array Bool} {i : Nat} (h : Closed ops listed) (hi : i ∈ Region.ready .any ops listed) : Closed ops (listed.setIfInBounds i true) := by
  intro j o ho hj p hp
  obtain ⟨_, oi, hoi, hall⟩ := mem_ready.1 hi
  by_cases e : j = i
  · subst e
    rw [hoi] at ho
    cases ho
    obtain ⟨e, he, hb, rfl⟩ := predsOf_mem hp
    exact getD_set_true (hall e he hb)
  · rw [getD_set_ne true (fun h => e h.symm)] at hj
    exact getD_set_true (h j o ho hj p hp)
theorem ancs_listed {listed : Array Bool} (hc : Closed ops listed) : ∀ (f : Nat) (st vis : List Nat), (∀ p ∈ st, listed.getD p false = true) → (∀ p ∈ vis, listed.getD p false = true) → ∀ p ∈ ancs ops f st vis, listed.getD p false = true
  | 0, _, vis, _, h2, p, hp => by
    unfold ancs at hp; exact h2 p hp
  | f + 1, [], vis, _, h2, p, hp => by
    unfold ancs at hp; exact h2 p hp
  | f + 1, j :: st, vis, h1, h2, p, hp => by
    unfold ancs at hp
    split at hp
    · exact ancs_listed hc f st vis (fun q hq => h1 q (List.mem_cons_of_mem _ hq)) h2 p hp
    · refine ancs_listed hc f _ (j :: vis) (fun q hq => ?_) (fun q hq => ?_) p hp
      · rcases List.mem_append.1 hq with hq | hq
        · split at hq
          · rename_i o ho
            refine hc j o ho ?_ q hq
            have hj := h1 j (List.mem_cons_self ..)
            rw [Array.getD_eq_getD_getElem?] at hj ⊢
            cases hl : listed[j]? with
            | none => rfl
            | some b => rw [hl] at hj; simpa using hj
          · simp at hq
        · exact h1 q (List.mem_cons_of_mem _ hq)
      · rcases List.mem_cons.1 hq with rfl | hq
        · exact h1 _ (List.mem_cons_self ..)
        · exact h2 q hq
/-- An operation that comes up ahead of a load does not wait for it. -/
theorem keepB_of {cx : Cx} {listed : Array Bool} (hc : Closed ops listed) {i j : Nat} {oi : Oper} (hi : ops[i]? = some oi) (hl : isHL cx P oi = true) (hun : listed.getD i true = false) (hj : j ∈ Region.ready .any ops listed) : keepB cx P ops j = true := by
  obtain ⟨_, o, ho, hall⟩ := mem_ready.1 hj
  unfold keepB
  rw [ho]
  simp only [List.any_eq_true]
  refine ⟨i, ?_, ?_⟩
  · unfold loadsOf
    rw [List.mem_filter]
    exact ⟨List.mem_range.2 (Array.getElem?_eq_some_iff.1 hi).1, by rw [hi]; exact hl⟩
  · simp only [Bool.not_eq_true', List.contains_eq_mem, decide_eq_false_iff_not]
    intro hm
    have := ancs_listed hc 1000 (predsOf o) [] (fun p hp => by obtain ⟨e, he, hb, rfl⟩ := predsOf_mem hp; exact hall e he hb) (fun p hp => by simp at hp) i hm
    rw [Array.getD_eq_getD_getElem?] at hun this
    cases h : listed[i]? with
    | none => rw [h] at hun; simp at hun
    | some b => rw [h] at hun this; simp at hun this; rw [hun] at this; cases this

/-- Whatever order is drawn from here on, operation i leads from one world to another as T i says. -/
def wpAnyL (P : Program) (ops : Array Oper) (Q : Exit → Act → World → Prop) (T : Nat → World → World → Prop) : Nat → Array Bool → Act → World → Prop
  | 0, listed, a, w => Region.ready .any ops listed = [] ∧ Q .normal a w
  | f + 1, listed, a, w => (Region.ready .any ops listed = [] → Q .normal a w) ∧
      ∀ i ∈ Region.ready .any ops listed, wpOp P ops Q i (fun a' w' => T i w w' ∧ wpAnyL P ops Q T f (listed.setIfInBounds i true) a' w') a w
theorem wpAny_of_L {T : Nat → World → World → Prop} : ∀ (f : Nat) (listed : Array Bool) (a : Act) (w : World), wpAnyL P ops Q T f listed a w → wpAny P .any ops Q f listed a w
  | 0, _, _, _, h => h
  | f + 1, _, _, _, h => ⟨h.1, fun i hi => wpOp_mono (fun a' w' h' => wpAny_of_L f _ a' w' h'.2) (h.2 i hi)⟩
/-! ### A region that draws its order, in a round -/
theorem oper_in {r : Option Nat} {o : Oper} {a : Act} {w : World} {K : Act → World → Prop} (hd : ∀ c, o.op ≠ .defer c) (h : o.wp P a w K Q) : o.wpIn (RF r) 0 P a w K Q := by
  refine ⟨fun _ _ => trivial, ?_⟩
  show o.uponIn _ _ _ _ _ _ ((o.semAt r a.eval).run P w)
  rw [Oper.semAt_eq _ _ _ hd]
  unfold Oper.wp at h
  generalize (execOp a.eval o).run P w = res at h ⊢
  cases res with
  | ok x w' =>
    cases x <;> simp only [Oper.upon, Oper.uponIn] at h ⊢
    case enter f args => exact ⟨(fun e => by cases e), callsIn_wide.2 (h.mono fun e w he => by cases e <;> exact he)⟩
    case row row args => exact ⟨(fun e => by cases e), fun c cs _ => let ⟨v, w', q, s⟩ := h c cs; ⟨v, w', q, stepsIn_wide.2 s⟩⟩
    all_goals exact h
  | halt x w' => cases x <;> exact h
theorem wpAnyIn_of {r : Option Nat} (hd : noDefer ops = true) (ho : ∀ a w, ¬ Q .outgrown a w) : ∀ (f : Nat) (listed : Array Bool) (a : Act) (w : World), wpAny P .any ops Q f listed a w → wpAnyIn (RF r) 0 P .any ops Q f listed a w
  | 0, _, _, _, h => h
  | f + 1, listed, a, w, h => ⟨h.1, fun i hi => by
    have h := h.2 i hi
    unfold wpOp at h
    unfold wpOpIn
    split at h
    · rename_i he; simp only [he]; exact wpAnyIn_of hd ho f _ _ _ h
    · rename_i o he
      simp only [he]
      split at h
      · rename_i hw
        rw [if_pos hw]
        rcases h with h | ⟨_, a', w', h⟩
        · refine Oper.wpIn_mono (fun a w => wpAnyIn_of hd ho f _ a w) (oper_in (fun c e => ?_) h)
          have := List.all_eq_true.1 hd o (by obtain ⟨hlt, rfl⟩ := Array.getElem?_eq_some_iff.1 he; exact Array.getElem_mem_toList hlt)
          rw [e] at this; cases this
        · exact (ho _ _ h).elim
      · rename_i hw
        rw [if_neg hw]
        exact ⟨fun _ _ => trivial, wpAnyIn_of hd ho f _ _ _ h⟩⟩
theorem region_in {r : Option Nat} {id : Nat} {a : Act} {w : World} (hl : r = none ∨ noDefer ops = true ∧ ∀ a w, ¬ Q .outgrown a w) (hm : P.follows .mixedOrders = true)
    (h : wpAny P .any ops Q ops.size (Array.replicate ops.size false) a { w with drawn := w.drawn + 1 }) : (Code.region id ops true).wpIn (RF r) 0 P Q a w := by
  rcases hl with rfl | ⟨hd, ho⟩
  · exact wpIn_wide.2 (wp_region_any hm h)
  · exact wpIn_region_any hm (wpAnyIn_of hd ho _ _ _ _ h)
/-- What is so ahead of operation i, stays so whatever comes up ahead of it. -/
def Stays (ops : Array Oper) (T : Nat → World → World → Prop) (i : Nat) (S : World → Prop) : Prop :=
  ∀ (listed : Array Bool) (j : Nat), Closed ops listed → listed.getD i true = false → j ∈ Region.ready .any ops listed → ∀ w w', T j w w' → S w → S w'
theorem wpAnyL_first {T : Nat → World → World → Prop} {S : World → Prop} {i : Nat} {oi : Oper} {v : Value} (hi : ops[i]? = some oi) (hsel : ∀ (j : Nat) (o : Oper) cs b, ops[j]? = some o → o.op ≠ .select cs b) (hQ : ∀ c a w, ¬ Q (.panic c) a w)
    (hT : Stays ops T i S) (hTi : ∀ w, T i w w) :
    ∀ (f : Nat) (listed : Array Bool) (a : Act) (w : World), Closed ops listed →
      (∀ j oj, ops[j]? = some oj → j ≠ i → listed.getD j true = false → (∀ e ∈ oj.after, Region.binds .any e = true → e.on ≠ i) → oi.apart ops oj = true) →
      i ∈ Region.ready .any ops listed → YieldsIf P ops S oi v a → S w → wpAnyL P ops Q T f (listed.setIfInBounds i true) (a.put oi.dst v) w → wpAnyL P ops Q T (f + 1) listed a w := by
  intro f
  induction f with
  | zero =>
    intro listed a w hc _ hr hy hS H
    refine ⟨fun h => (by rw [h] at hr; cases hr), fun j hj => ?_⟩
    by_cases hji : j = i
    · subst hji
      exact hy.wpOp hi hS ⟨hTi w, H⟩
    · have := ready_mono hj hji
      rw [H.1] at this
      cases this
  | succ f ih =>
    intro listed a w hc hfree hr hy hS H
    refine ⟨fun h => (by rw [h] at hr; cases hr), fun j hj => ?_⟩
    by_cases hji : j = i
    · subst hji
      exact hy.wpOp hi hS ⟨hTi w, H⟩
    obtain ⟨hiun, oi', hoi', hiall⟩ := mem_ready.1 hr
    obtain ⟨hjun, oj, hoj, hall⟩ := mem_ready.1 hj
    have hno : ∀ e ∈ oj.after, Region.binds .any e = true → e.on ≠ i := by
      intro e he hb heq
      have h1 := hall e he hb
      rw [heq, Array.getD_eq_getD_getElem?] at h1
      rw [Array.getD_eq_getD_getElem?] at hiun
      cases hl : listed[i]? with
      | none => rw [hl] at hiun; simp at hiun
      | some b => rw [hl] at hiun h1; simp at hiun h1; rw [hiun] at h1; cases h1
    have h2 := wpOp_putIf hoj (hfree j oj hoj hji hjun hno) (fun cs b => hsel i oi cs b hi) (fun cs b => hsel j oj cs b hoj) (fun c a w h => absurd h (hQ _ _ _)) hy (H.2 j (ready_mono hj hji))
    refine wpOp_mono (fun a' w' h3 => ⟨h3.2.1, ih (listed.setIfInBounds j true) a' w' (closed_set hc hj) (fun k ok hk hki hun hn => ?_) (ready_mono hr (fun e => hji e.symm)) h3.1 (hT listed j hc hiun hj w w' h3.2.1 hS) ?_⟩) h2
    · refine hfree k ok hk hki ?_ hn
      by_cases hjk : j = k
      · subst hjk; exact hjun
      · rwa [getD_set_ne true hjk] at hun
    · rw [Array.setIfInBounds_comm _ _ hji]
      exact h3.2.2
end
end Go.Vx

/- The executor's lists of operations: in the order of the text, or in an order that is drawn. -/
namespace Go.Vx
section
variable {P : Program} {β : Nat → Option Nat} {st : St} {a : Act} {w : World} {bx : List Box}

/-- What an operation must do, in whatever frame; where an order is drawn, as everywhere. -/
structure OpOk (P : Program) (r : Option Nat) (lc : Bool) (o : Oper) (a : Act) (w : World) (next : Act → World → Prop) (Q : Exit → Act → World → Prop) : Prop where
  inn : o.wpIn (RF r) 0 P a w next Q
  plain : lc = false → o.wp P a w next Q
/-- A way to run a list of a region's operations: 'S0' is kept by each of them; 'Adm' tells which classes of worlds may be used for an operation that leaves the heap alone. -/
structure Runs (P : Program) (r : Option Nat) (ops : Array Oper) (Q : Exit → Act → World → Prop) {ι : Type} (lc : Bool) (T : Nat → World → World → Prop) (Adm : Nat → (World → Prop) → Prop) (W : ι → List Nat → Act → World → Prop) : Prop where
  nil : ∀ x a w, Q .normal a w → W x [] a w
  quiet : ∀ x i is o a w y, ops[i]? = some o → quietOp P o = true → ∀ S : World → Prop, Adm i S → S w → YieldsIf P ops S o y a → (∀ x', W x' is (a.put o.dst y) w) → W x (i :: is) a w
  skip : ∀ x i is o a w, ops[i]? = some o → Region.wanted o (yielded ops a.tmps) = false → (∀ x', W x' is (a.put o.dst undef) w) → W x (i :: is) a w
  eff : ∀ x i is o a w, ops[i]? = some o → quietOp P o = false → Region.wanted o (yielded ops a.tmps) = true → OpOk P r lc o a w (fun a' w' => T i w w' ∧ ∀ x', W x' is a' w') Q → W x (i :: is) a w

theorem dstOf_eq {ops : Array Oper} {j : Nat} : dstOf ops j = (ops[j]?).bind (·.dst) := by
  unfold dstOf; cases ops[j]? <;> rfl
theorem getD_some {tmps : Array Value} {t : Nat} {b : Bool} (h : tmps.getD t undef = .bool b) : tmps[t]? = some (.bool b) := by
  rw [Array.getD_eq_getD_getElem?] at h
  cases e : tmps[t]? with
  | none => rw [e] at h; simp [undef] at h
  | some v => rw [e] at h; simp at h; rw [h]
theorem wanted_none {ops : Array Oper} {o : Oper} {w0 : Bool} (h : guardSlot ops o = some (none, w0)) (tmps : Array Value) : Region.wanted o (yielded ops tmps) = true := by
  unfold guardSlot at h
  unfold Region.wanted
  split at h
  · rename_i hg; rw [hg]
  · split at h <;> simp at h
theorem wanted_bool {ops : Array Oper} {o : Oper} {t : Tmp} {want b : Bool} (h : guardSlot ops o = some (some t, want)) {tmps : Array Value} (hb : tmps.getD t undef = .bool b) : Region.wanted o (yielded ops tmps) = (b == want) := by
  unfold guardSlot at h
  unfold Region.wanted
  split at h
  · simp at h
  · rename_i j wnt hg
    split at h
    · rename_i t' hd
      simp only [Option.some.injEq, Prod.mk.injEq] at h
      obtain ⟨rfl, rfl⟩ := h
      rw [dstOf_eq] at hd
      simp only [hg, yielded, hd, Option.bind_some, getD_some hb]
      cases b <;> cases wnt <;> rfl
    · cases h
theorem wanted_tuple {ops : Array Oper} {o : Oper} {t : Tmp} {want : Bool} {vs : Array Value} (h : guardSlot ops o = some (some t, want)) {tmps : Array Value} (hb : tmps.getD t undef = .tuple vs) : Region.wanted o (yielded ops tmps) = false := by
  unfold guardSlot at h
  unfold Region.wanted
  split at h
  · simp at h
  · rename_i j wnt hg
    split at h
    · rename_i t' hd
      simp only [Option.some.injEq, Prod.mk.injEq] at h
      obtain ⟨rfl, rfl⟩ := h
      rw [dstOf_eq] at hd
      simp only [hg, yielded, hd, Option.bind_some]
      rw [Array.getD_eq_getD_getElem?] at hb
      cases e : tmps[t']? with
      | none => simp
      | some v => rw [e] at hb; simp at hb; subst hb; simp
    · cases h
theorem pure1_sound {o : Oper} {sv : SV} (h : pure1 P bx st o = some sv) (ht : TmOk β st a) : quietOp P o = true ∧ Ylds P β bx a o sv := by
  unfold pure1 at h
  split at h
  · rename_i hq
    split at h
    · rename_i sv' hp
      obtain rfl := Option.some.inj h
      exact ⟨hq, pOp_sound ht hp (fun p hp => by cases hp)⟩
    · cases h
  · cases h
theorem put_len (d : Option Tmp) (sv : SV) : (st.put d sv).tm.length = st.tm.length := by cases d <;> simp [St.put]
theorem kbAt_len (x : Operand) (b : Bool) : (st.kbAt x b).tm.length = st.tm.length := by cases x <;> simp [St.kbAt]
theorem pOps_len {ops : Array Oper} : ∀ (l : List Nat) {st st' : St}, pOps P bx ops l st = some st' → st'.tm.length = st.tm.length
  | [], st, st', h => by simp [pOps] at h; rw [h]
  | i :: is, st, st', h => by
    rw [pOps] at h
    split at h
    · cases h
    · rename_i o ho
      split at h
      · cases h
      · split at h
        · rw [pOps_len is h, put_len]
        · cases h
      · rename_i t want hg
        split at h
        · split at h
          · split at h
            · rw [pOps_len is h, put_len]
            · cases h
          · rw [pOps_len is h, put_len]
        · split at h
          · split at h
            · obtain rfl := Option.some.inj h
              cases want <;> simp [mergeTm_len]
            · cases h
          · cases h
        · rw [pOps_len is h, put_len]
        · cases h
theorem pOps_bx {ops : Array Oper} : ∀ (l : List Nat) {st st' : St}, pOps P bx ops l st = some st' → st'.bx = st.bx
  | [], st, st', h => by simp [pOps] at h; rw [h]
  | i :: is, st, st', h => by
    rw [pOps] at h
    split at h
    · cases h
    · rename_i o ho
      split at h
      · cases h
      · split at h
        · rw [pOps_bx is h, put_bx]
        · cases h
      · rename_i t want hg
        split at h
        · split at h
          · split at h
            · rw [pOps_bx is h, put_bx]
            · cases h
          · rw [pOps_bx is h, put_bx]
        · split at h
          · split at h
            · obtain rfl := Option.some.inj h
              rfl
            · cases h
          · cases h
        · rw [pOps_bx is h, put_bx]
        · cases h
theorem put_other {d : Option Tmp} {y : Value} {t : Tmp} (h : d ≠ some t) : (a.put d y).tmps.getD t undef = a.tmps.getD t undef := by
  cases d with
  | none => rfl
  | some d =>
    have hne : d ≠ t := fun e => h (by rw [e])
    simp only [Act.put]
    rw [Array.getD_eq_getD_getElem?, Array.getElem?_setIfInBounds_ne hne, ← Array.getD_eq_getD_getElem?]
theorem put_defers (d : Option Tmp) (y : Value) : (a.put d y).defers = a.defers := by cases d <;> rfl

/-- What holds of an act that only such operations have turned. -/
structure Turned (β : Nat → Option Nat) (st' : St) (l : List Tmp) (a a' : Act) : Prop where
  tm : TmOk β st' a'
  dfr : a'.defers = a.defers
  keep : ∀ t, t ∉ l → a'.tmps.getD t undef = a.tmps.getD t undef
theorem Turned.step {st' : St} {ops : Array Oper} {i : Nat} {is : List Nat} {o : Oper} {a' : Act} {y : Value} (ho : ops[i]? = some o) (h : Turned β st' (writtenAt ops is) (a.put o.dst y) a') : Turned β st' (writtenAt ops (i :: is)) a a' := by
  refine ⟨h.tm, by rw [h.dfr, put_defers], fun t ht => ?_⟩
  have hd : dstOf ops i = o.dst := by simp [dstOf, ho]
  simp only [writtenAt] at ht
  rw [hd] at ht
  cases e : o.dst with
  | none =>
    rw [e] at ht
    simp only at ht
    rw [h.keep t ht, put_other (by rw [e]; simp)]
  | some d =>
    rw [e] at ht
    simp only [List.mem_cons, not_or] at ht
    rw [h.keep t ht.2, put_other (by rw [e]; simp; exact fun e => ht.1 e.symm)]

theorem pOps_sound {r : Option Nat} {lc : Bool} {ops : Array Oper} {Q : Exit → Act → World → Prop} {ι : Type} {T : Nat → World → World → Prop} {Adm : Nat → (World → Prop) → Prop} {W : ι → List Nat → Act → World → Prop} (hR : Runs P r ops Q lc T Adm W)
    {S : World → Prop} (hA : ∀ i, Adm i S) (hS : ∀ w', S w' → BxOk β bx w') (hw : S w) : ∀ (l : List Nat) {st st' : St} {a : Act} (x : ι), pOps P bx ops l st = some st' → TmOk β st a →
      (∀ a', Turned β st' (writtenAt ops l) a a' → Q .normal a' w) → W x l a w
  | [], st, st', a, x, h, ht, hQ => by
    simp [pOps] at h
    subst h
    exact hR.nil x a w (hQ a ⟨ht, rfl, fun _ _ => rfl⟩)
  | i :: is, st, st', a, x, h, ht, hQ => by
    have go : ∀ {st1 : St} {o : Oper} {sv : SV} {s' : St}, ops[i]? = some o → TmOk β st1 a → Region.wanted o (yielded ops a.tmps) = true → pure1 P bx st1 o = some sv → pOps P bx ops is (st1.put o.dst sv) = some s' →
        (∀ a', Turned β s' (writtenAt ops (i :: is)) a a' → Q .normal a' w) → W x (i :: is) a w := by
      intro st1 o sv s' ho ht1 hwn hp hh hq
      obtain ⟨hqt, y, hc, hr⟩ := pure1_sound hp ht1
      refine hR.quiet x i is o a w y ho hqt S (hA i) hw (.inl ⟨hwn, fun w' hs => hr w' (hS w' hs)⟩) fun x' => ?_
      exact pOps_sound hR hA hS hw is x' hh (ht1.put o.dst hc) fun a' ha' => hq a' (ha'.step ho)
    have goSkip : ∀ {st1 : St} {o : Oper} {s' : St}, ops[i]? = some o → TmOk β st1 a → Region.wanted o (yielded ops a.tmps) = false → pOps P bx ops is (st1.put o.dst (.v undef)) = some s' →
        (∀ a', Turned β s' (writtenAt ops (i :: is)) a a' → Q .normal a' w) → W x (i :: is) a w := by
      intro st1 o s' ho ht1 hwn hh hq
      refine hR.skip x i is o a w ho hwn fun x' => ?_
      exact pOps_sound hR hA hS hw is x' hh (ht1.put o.dst rfl) fun a' ha' => hq a' (ha'.step ho)
    rw [pOps] at h
    split at h
    · cases h
    · rename_i o ho
      split at h
      · cases h
      · rename_i w0 hg
        split at h
        · rename_i sv hp
          exact go ho ht (wanted_none hg _) hp h hQ
        · cases h
      · rename_i t want hg
        have hget := ht.get t
        split at h
        · rename_i b hb
          rw [hb] at hget
          have hwb := wanted_bool hg hget
          split at h
          · rename_i he
            split at h
            · rename_i sv hp
              exact go ho ht (by rw [hwb, he]) hp h hQ
            · cases h
          · rename_i he
            exact goSkip ho ht (by rw [hwb, he]) h hQ
        · rename_i b hb
          rw [hb] at hget
          have hwb := wanted_bool hg hget
          split at h
          · rename_i sv hp
            split at h
            · rename_i s1 s2 h1 h2
              obtain rfl := Option.some.inj h
              have l1 := pOps_len is h1
              have l2 := pOps_len is h2
              rw [put_len, kbAt_len] at l1 l2
              by_cases he : b = want
              · subst he
                refine go ho (ht.kbAt (x := .tmp t) hget) (by rw [hwb]; simp) hp h1 fun a' ha' => hQ a' ⟨?_, ha'.dfr, ha'.keep⟩
                cases b
                · exact ht.merge (c := false) l2 l1 ha'.keep ha'.tm
                · exact ht.merge (c := true) l1 l2 ha'.keep ha'.tm
              · have hb' : b = !want := by cases b <;> cases want <;> simp_all
                have hget' : a.eval (.tmp t) = .bool (!want) := by rw [← hb']; exact hget
                refine goSkip ho (ht.kbAt (x := .tmp t) hget') (by rw [hwb, hb']; cases want <;> rfl) h2 fun a' ha' => hQ a' ⟨?_, ha'.dfr, ha'.keep⟩
                rw [hb']
                cases want
                · exact ht.merge (c := true) l2 l1 ha'.keep ha'.tm
                · exact ht.merge (c := false) l1 l2 ha'.keep ha'.tm
            · cases h
          · cases h
        · rename_i vs hb
          rw [hb] at hget
          exact goSkip ho ht (wanted_tuple hg hget) h hQ
        · cases h
end
end Go.Vx

/- The executor's steps of memory. -/
namespace Go.Vx
section
variable {P : Program} {β : Nat → Option Nat} {st : St} {a : Act} {w : World} {bx : List Box} {H H' H0 : PHeap} {w0 : World} {pd : List (Nat × Obj)}

theorem Sees.lt (hs : Sees H w) {k : Nat} (h : H k ≠ none) : k < w.heap.size := by
  cases e : H k with
  | none => exact absurd e h
  | some o =>
    rcases Nat.lt_or_ge k w.heap.size with hl | hl
    · exact hl
    · have := hs k o e
      rw [Array.getElem?_eq_none hl] at this
      cases this
theorem Nx.refl (hs : Sees H w) : Nx H H w w := ⟨rfl, rfl, rfl, Nat.le_refl _, fun _ _ _ => rfl, fun _ h => .inl h, hs⟩
theorem Nx.trans {H'' : PHeap} {w' w'' : World} (h : Nx H H' w w') (h' : Nx H' H'' w' w'') : Nx H H'' w w'' := by
  refine ⟨h'.os.trans h.os, h'.tape.trans h.tape, h'.output.trans h.output, Nat.le_trans h.size h'.size, fun k hk hn => ?_, fun k hk => ?_, h'.sees⟩
  · have hn' : H' k = none := by
      cases e : H' k with
      | none => rfl
      | some o => rcases h.fresh k (by rw [e]; simp) with h1 | h1
                  · exact absurd hn h1
                  · omega
    rw [h'.keep k (Nat.lt_of_lt_of_le hk h.size) hn', h.keep k hk hn]
  · rcases h'.fresh k hk with h1 | h1
    · exact h.fresh k h1
    · exact .inr (Nat.le_trans h.size h1)
theorem Nx.drew (hs : Sees H w) : Nx H H w w.drew := ⟨rfl, rfl, rfl, Nat.le_refl _, fun _ _ _ => rfl, fun _ h => .inl h, hs⟩
theorem heap_alloc (o : Obj) (k : Nat) (h : k < w.heap.size) : (w.alloc o).heap[k]? = w.heap[k]? := by
  show (w.heap.push o)[k]? = _
  rw [Array.getElem?_push, if_neg (by omega)]
theorem heap_alloc_new (o : Obj) : (w.alloc o).heap[w.heap.size]? = some o := by
  show (w.heap.push o)[w.heap.size]? = _
  simp
theorem Nx.alloc (hs : Sees H w) (o : Obj) : Nx H (H.upd w.heap.size o) w (w.alloc o) := by
  refine ⟨rfl, rfl, rfl, by simp, fun k hk _ => heap_alloc o k hk, fun k hk => ?_, fun k o' hk => ?_⟩
  · by_cases e : k = w.heap.size
    · right; omega
    · left; simpa [PHeap.upd, e] using hk
  · by_cases e : k = w.heap.size
    · subst e
      simp only [PHeap.upd, if_true] at hk
      rw [heap_alloc_new, hk]
    · have hk' : H k = some o' := by simpa [PHeap.upd, e] using hk
      rw [heap_alloc o k (hs.lt (by rw [hk']; simp))]
      exact hs k o' hk'
theorem heap_setRow (g : Nat) (cs : Array Value) (k : Nat) (h : k ≠ g) : (w.setRow g cs).heap[k]? = w.heap[k]? := by
  simp only [World.setRow, Array.getElem?_modify]
  rw [if_neg (by omega)]
theorem Nx.setRow (hs : Sees H w) {g : Nat} {c c' : Array Value} {e : TypeId} {fz : Nat × Nat} (hg : H g = some (.cells c e fz)) : Nx H (H.upd g (.cells c' e fz)) w (w.setRow g c') := by
  have hlt := hs.lt (k := g) (by rw [hg]; simp)
  refine ⟨rfl, rfl, rfl, by simp [World.setRow], fun k hk hn => heap_setRow g c' k (fun e => by subst e; rw [hg] at hn; cases hn), fun k hk => ?_, fun k o hk => ?_⟩
  · by_cases e : k = g
    · left; rw [e, hg]; simp
    · left; simpa [PHeap.upd, e] using hk
  · by_cases e : k = g
    · subst e
      simp only [PHeap.upd, if_true, Option.some.injEq] at hk
      rw [setRow_heap w k c c' _ fz (hs k _ hg), hk]
    · have hk' : H k = some o := by simpa [PHeap.upd, e] using hk
      rw [heap_setRow g c' k e]
      exact hs k o hk'
theorem run_storeCells_gen (P : Program) (g o : Nat) (t : TypeId) (lo hi : Nat) : ∀ (vs : List Value) (i : Nat) (cur : Array Value) (w : World), w.heap[g]? = some (.cells cur t (lo, hi)) → (∀ j, j < vs.length → ¬ (lo ≤ o + i + j ∧ o + i + j < hi)) → o + i + vs.length ≤ cur.size → (∀ v ∈ vs, v.oneCell' = true) →
    (storeCells ⟨g, o, none⟩ vs i).run P w = .ok () (w.setRow g (cur.toList.take (o + i) ++ vs ++ cur.toList.drop (o + i + vs.length)).toArray)
  | [], i, cur, w, hg, _, _, _ => by
    simp only [storeCells, List.append_nil, List.length_nil, Nat.add_zero, List.take_append_drop, Array.toArray_toList]
    rw [setRow_self w g cur t _ hg]
    rfl
  | v :: rest, i, cur, w, hg, hfz, hl, h1 => by
    have hi' : o + i < cur.size := by simp at hl; omega
    have hcell : w.cell? ⟨g, o + i, none⟩ = some cur[o + i] := by simp [World.cell?, hg, hi']
    have hfro : w.frozen? ⟨g, o + i, none⟩ = false := by
      have := hfz 0 (by simp)
      simp only [World.frozen?, hg, Bool.and_eq_false_iff, decide_eq_false_iff_not]
      omega
    have hst : (store ((⟨g, o, none⟩ : Addr).add i) v).run P w = .ok () (w.setRow g (cur.setIfInBounds (o + i) v)) := by
      rw [add_none, run_store P w _ v _ (h1 v (by simp)), hcell]
      simp [hfro, setCell_eq_setRow w g (o + i) cur t _ v hg]
    have ih := run_storeCells_gen P g o t lo hi rest (i + 1) (cur.setIfInBounds (o + i) v) (w.setRow g (cur.setIfInBounds (o + i) v)) (setRow_heap w g cur _ t _ hg) (fun j hj => by
      have := hfz (j + 1) (by simp; omega)
      rwa [show o + i + (j + 1) = o + (i + 1) + j by omega] at this) (by simp at hl ⊢; omega) (fun x hx => h1 x (by simp [hx]))
    simp only [storeCells, Sem.run_bind, hst, Result.andThen_ok, ih, setRow_setRow]
    congr 3
    have e := list_seg_step cur.toList (o + i) v rest (by simp at hl ⊢; omega)
    simpa [Array.toList_setIfInBounds, Nat.add_assoc] using e
theorem okCell_eq (v : Value) : okCell v = v.oneCell' := by cases v <;> rfl
theorem run_storeVar_gen {t : TypeId} {v : Value} {g o : Nat} {e : TypeId} {lo hi : Nat} {cur : Array Value} (hn : sizeT P t = some (cellsL v).length) (hg : w.heap[g]? = some (.cells cur e (lo, hi))) (hf : ∀ j, j < (cellsL v).length → ¬ (lo ≤ o + j ∧ o + j < hi))
    (hl : o + (cellsL v).length ≤ cur.size) (hc : ∀ u ∈ cellsL v, okCell u = true) : (storeVar t ⟨g, o, none⟩ v).run P w = .ok () (w.setRow g (over cur.toList o (cellsL v)).toArray) := by
  have h1 := run_storeCells_gen P g o e lo hi (cellsL v) 0 cur w hg (by simpa using hf) (by simpa using hl) (fun u hu => by rw [← okCell_eq]; exact hc u hu)
  have h2 : v.cells.size = (cellsL v).length := cells_size v
  simp only [storeVar, Sem.run_bind, run_size hn, Result.andThen_ok, h2, ne_eq, not_true_eq_false, if_false, cells_toList]
  simpa [over] using h1

/-- A loop over a function leaves a mark among the calls that are put off; its block has no call in it. -/
structure MarkAt (H : PHeap) (w0 w : World) (d : Deferred) : Prop where
  out : ∃ D, d = { target := .collected D, args := #[] } ∧ w.heap[D]? = some (.deferred (some [])) ∧ H D = none ∧ w0.heap.size ≤ D
theorem MarkAt.keep {w0 w' : World} {d : Deferred} (h : MarkAt H w0 w d) (hh : ∀ D, w.heap[D]? = some (.deferred (some [])) → H D = none → w'.heap[D]? = w.heap[D]? ∧ H' D = none) : MarkAt H' w0 w' d := by
  obtain ⟨D, e, h1, h2, h3⟩ := h.out
  obtain ⟨k1, k2⟩ := hh D h1 h2
  exact ⟨D, e, by rw [k1]; exact h1, k2, h3⟩
theorem Nx.nloc {w' : World} (hn : Nx H H' w w') {D : Nat} (hlt : D < w.heap.size) (h : H D = none) : H' D = none := by
  cases e : H' D with
  | none => rfl
  | some o =>
    rcases hn.fresh D (by rw [e]; simp) with h1 | h1
    · exact absurd h h1
    · omega
theorem MarkAt.step {w0 w' : World} {d : Deferred} (h : MarkAt H w0 w d) (hn : Nx H H' w w') : MarkAt H' w0 w' d :=
  h.keep fun D h1 h2 => have hlt := (Array.getElem?_eq_some_iff.1 h1).1; ⟨hn.keep D hlt h2, hn.nloc hlt h2⟩
/-- A block that is made already, but not yet told of. -/
structure PendAt (H : PHeap) (w0 : World) (β : Nat → Option Nat) (w : World) (p : Nat × Obj) : Prop where
  at_ : w.heap[p.1]? = some p.2
  unk : H p.1 = none
  old : w0.heap.size ≤ p.1
  box : ∀ i, β i ≠ some p.1
  cells : ∃ c e, p.2 = .cells c e (0, 0)
theorem PendAt.lt {p : Nat × Obj} (h : PendAt H w0 β w p) : p.1 < w.heap.size := (Array.getElem?_eq_some_iff.1 h.at_).1
/-- What is kept of the state and the world. -/
structure J (pd : List (Nat × Obj)) (H0 : PHeap) (w0 : World) (β : Nat → Option Nat) (st : St) (H : PHeap) (a : Act) (w : World) : Prop where
  tm : TmOk β st a
  bx : BxOk β st.bx w
  dom : ∀ i, st.bx.length ≤ i → β i = none
  inj : ∀ i j g, β i = some g → β j = some g → i = j
  nloc : ∀ i g, β i = some g → H g = none
  old : ∀ i g, β i = some g → w0.heap.size ≤ g
  nx : Nx H0 H w0 w
  dfr : (∀ d ∈ a.defers, MarkAt H w0 w d) ∧ a.defers.Nodup
  pnd : ∀ p ∈ pd, PendAt H w0 β w p
structure Ext (β : Nat → Option Nat) (bx : List Box) (β' : Nat → Option Nat) (bx' : List Box) : Prop where
  beta : ∀ i g, β i = some g → β' i = some g
  box : ∀ (i : Nat) (c : Box), bx[i]? = some c → ∃ c' : Box, bx'[i]? = some c' ∧ c'.ty = c.ty ∧ c'.fz = c.fz ∧ c'.cells.length = c.cells.length ∧ (c.fz = true → c'.cells = c.cells)
theorem Ext.refl (β : Nat → Option Nat) (bx : List Box) : Ext β bx β bx := ⟨fun _ _ h => h, fun _ c h => ⟨c, h, rfl, rfl, rfl, fun _ => rfl⟩⟩
theorem Ext.len {β' : Nat → Option Nat} {bx bx' : List Box} (h : Ext β bx β' bx') : bx.length ≤ bx'.length := by
  rcases Nat.lt_or_ge bx'.length bx.length with hl | hl
  · obtain ⟨c', hc', _⟩ := h.box bx'.length bx[bx'.length] (List.getElem?_eq_getElem hl)
    rw [List.getElem?_eq_none (Nat.le_refl _)] at hc'
    cases hc'
  · exact hl
theorem Ext.trans {β' β'' : Nat → Option Nat} {bx' bx'' : List Box} (h : Ext β bx β' bx') (h' : Ext β' bx' β'' bx'') : Ext β bx β'' bx'' := by
  refine ⟨fun i g hg => h'.beta i g (h.beta i g hg), fun i c hc => ?_⟩
  obtain ⟨c1, h1, h2, h3, h4, h5⟩ := h.box i c hc
  obtain ⟨c2, k1, k2, k3, k4, k5⟩ := h'.box i c1 h1
  exact ⟨c2, k1, k2.trans h2, k3.trans h3, k4.trans h4, fun hf => (k5 (by rw [h3]; exact hf)).trans (h5 hf)⟩
theorem conc_mono {β' : Nat → Option Nat} (h : ∀ i g, β i = some g → β' i = some g) {sv : SV} {y : Value} (hc : sv.conc β y) : sv.conc β' y := by
  cases sv <;> try exact hc
  obtain ⟨g, hg, hy⟩ := hc
  exact ⟨g, h _ _ hg, hy⟩
theorem TmOk.mono {β' : Nat → Option Nat} (h : ∀ i g, β i = some g → β' i = some g) (ht : TmOk β st a) : TmOk β' st a := ⟨ht.size, fun t sv hs => conc_mono h (ht.at_ t sv hs)⟩
theorem J.ltw (h : J pd H0 w0 β st H a w) {i g : Nat} (hi : β i = some g) : g < w.heap.size := by
  rcases Nat.lt_or_ge i st.bx.length with hl | hl
  · obtain ⟨g', hg', hh⟩ := h.bx i st.bx[i] (List.getElem?_eq_getElem hl)
    rw [hi] at hg'
    obtain rfl := Option.some.inj hg'
    exact (Array.getElem?_eq_some_iff.1 hh).1
  · rw [h.dom i hl] at hi; cases hi
theorem J.step {w' : World} (h : J pd H0 w0 β st H a w) (hn : Nx H H' w w') : J pd H0 w0 β st H' a w' := by
  refine ⟨h.tm, fun i c hc => ?_, h.dom, h.inj, fun i g hi => ?_, h.old, h.nx.trans hn, ⟨fun d hd => (h.dfr.1 d hd).step hn, h.dfr.2⟩, fun p hp => let g := h.pnd p hp; ⟨by rw [hn.keep p.1 g.lt g.unk]; exact g.at_, hn.nloc g.lt g.unk, g.old, g.box, g.cells⟩⟩
  · obtain ⟨g, hg, hh⟩ := h.bx i c hc
    exact ⟨g, hg, by rw [hn.keep g (h.ltw hg) (h.nloc i g hg)]; exact hh⟩
  · cases e : H' g with
    | none => rfl
    | some o =>
      rcases hn.fresh g (by rw [e]; simp) with h1 | h1
      · exact absurd (h.nloc i g hi) h1
      · have := h.ltw hi; omega
theorem J.sees (h : J pd H0 w0 β st H a w) : Sees H w := h.nx.sees
theorem J.put (h : J pd H0 w0 β st H a w) (dst : Option Tmp) {sv : SV} {y : Value} (hc : sv.conc β y) : J pd H0 w0 β (st.put dst sv) H (a.put dst y) w := by
  refine ⟨h.tm.put dst hc, by rw [put_bx]; exact h.bx, by rw [put_bx]; exact h.dom, h.inj, h.nloc, h.old, h.nx, by rw [put_defers]; exact h.dfr, h.pnd⟩
theorem J.kbAt (h : J pd H0 w0 β st H a w) {x : Operand} {b : Bool} (hx : a.eval x = .bool b) : J pd H0 w0 β (st.kbAt x b) H a w :=
  ⟨h.tm.kbAt hx, by rw [kbAt_bx]; exact h.bx, by rw [kbAt_bx]; exact h.dom, h.inj, h.nloc, h.old, h.nx, h.dfr, h.pnd⟩
theorem J.alloc (h : J pd H0 w0 β st H a w) (cells : List Value) (t : TypeId) :
    ∃ β', Ext β st.bx β' (st.bx ++ [⟨cells, t, false⟩]) ∧ β' st.bx.length = some w.heap.size ∧ J pd H0 w0 β' { st with bx := st.bx ++ [⟨cells, t, false⟩] } H a (w.alloc (.cells cells.toArray t (0, 0))) := by
  have hbe : ∀ i g, β i = some g → (if i = st.bx.length then some w.heap.size else β i) = some g := fun i g hg => by
    rw [if_neg (fun e => by rw [h.dom i (by omega)] at hg; cases hg)]; exact hg
  refine ⟨fun i => if i = st.bx.length then some w.heap.size else β i, ⟨hbe, fun i c hc => ?_⟩, by simp, ⟨h.tm.mono hbe |>.bx _, fun i c hc => ?_, fun i hi => ?_, fun i j g hi hj => ?_, fun i g hi => ?_, fun i g hi => ?_, ?_, ⟨fun d hd => (h.dfr.1 d hd).keep fun D h1 h2 => ⟨heap_alloc _ _ (Array.getElem?_eq_some_iff.1 h1).1, h2⟩, h.dfr.2⟩, fun p hp => let g := h.pnd p hp; ⟨by rw [heap_alloc _ _ g.lt]; exact g.at_, g.unk, g.old, fun i hi => ?_, g.cells⟩⟩⟩
  · have hi : i < st.bx.length := (List.getElem?_eq_some_iff.1 hc).1
    exact ⟨c, by rw [List.getElem?_append_left hi]; exact hc, rfl, rfl, rfl, fun _ => rfl⟩
  · by_cases e : i = st.bx.length
    · subst e
      simp at hc
      subst hc
      exact ⟨_, if_pos rfl, heap_alloc_new _⟩
    · have hi : i < st.bx.length := by
        have := (List.getElem?_eq_some_iff.1 hc).1
        simp at this; omega
      rw [List.getElem?_append_left hi] at hc
      obtain ⟨g, hg, hh⟩ := h.bx i c hc
      exact ⟨g, hbe i g hg, by rw [heap_alloc _ _ (h.ltw hg)]; exact hh⟩
  · simp only [List.length_append, List.length_singleton] at hi
    rw [if_neg (by omega)]
    exact h.dom i (by omega)
  · by_cases e1 : i = st.bx.length <;> by_cases e2 : j = st.bx.length
    · omega
    · rw [if_pos e1] at hi; rw [if_neg e2] at hj
      obtain rfl := Option.some.inj hi
      exact absurd (h.ltw hj) (Nat.lt_irrefl _)
    · rw [if_neg e1] at hi; rw [if_pos e2] at hj
      obtain rfl := Option.some.inj hj
      exact absurd (h.ltw hi) (Nat.lt_irrefl _)
    · rw [if_neg e1] at hi; rw [if_neg e2] at hj
      exact h.inj i j g hi hj
  · by_cases e : i = st.bx.length
    · rw [if_pos e] at hi
      obtain rfl := Option.some.inj hi
      cases hh : H w.heap.size with
      | none => rfl
      | some o => have := h.sees.lt (k := w.heap.size) (by rw [hh]; simp); omega
    · rw [if_neg e] at hi; exact h.nloc i g hi
  · by_cases e : i = st.bx.length
    · rw [if_pos e] at hi
      obtain rfl := Option.some.inj hi
      exact h.nx.size
    · rw [if_neg e] at hi; exact h.old i g hi
  · refine ⟨h.nx.os, h.nx.tape, h.nx.output, by simpa using Nat.le_succ_of_le h.nx.size, fun k hk hn => ?_, h.nx.fresh, fun k o hk => ?_⟩
    · rw [heap_alloc _ _ (Nat.lt_of_lt_of_le hk h.nx.size)]; exact h.nx.keep k hk hn
    · rw [heap_alloc _ _ (h.sees.lt (by rw [hk]; simp))]; exact h.sees k o hk
  · by_cases e : i = st.bx.length
    · rw [if_pos e] at hi
      have := g.lt
      injection hi with hi
      omega
    · rw [if_neg e] at hi; exact g.box i hi
/-- A store into a box. -/
theorem J.store (h : J pd H0 w0 β st H a w) {b g : Nat} {c : Box} (hb : st.bx[b]? = some c) (hg : β b = some g) (hf : c.fz = false) (l : List Value) (hl : l.length = c.cells.length) :
    Ext β st.bx β (setNth st.bx b { c with cells := l }) ∧ J pd H0 w0 β { st with bx := setNth st.bx b { c with cells := l } } H a (w.setRow g l.toArray) := by
  obtain ⟨g', hg', hh⟩ := h.bx b c hb
  rw [hg] at hg'
  obtain rfl := Option.some.inj hg'
  have hlt : b < st.bx.length := (List.getElem?_eq_some_iff.1 hb).1
  refine ⟨⟨fun _ _ hg => hg, fun i c' hc => ?_⟩, ⟨h.tm.bx _, fun i c' hc => ?_, fun i hi => h.dom i (by simpa [setNth] using hi), h.inj, h.nloc, h.old, ?_, ⟨fun d hd => (h.dfr.1 d hd).keep fun D h1 h2 => ⟨heap_setRow g _ D (fun e => by rw [e, hh] at h1; cases h1), h2⟩, h.dfr.2⟩, fun p hp => let q := h.pnd p hp; ⟨by rw [heap_setRow g _ _ (fun e => q.box b (by rw [hg, e]))]; exact q.at_, q.unk, q.old, q.box, q.cells⟩⟩⟩
  · by_cases e : b = i
    · subst e
      rw [hb] at hc
      obtain rfl := Option.some.inj hc
      exact ⟨{ c with cells := l }, by simp [setNth, hlt], rfl, rfl, hl, fun hx => by rw [hf] at hx; cases hx⟩
    · exact ⟨c', by simp [setNth, List.getElem?_set_ne e, hc], rfl, rfl, rfl, fun _ => rfl⟩
  · by_cases e : b = i
    · subst e
      simp [setNth, hlt] at hc
      subst hc
      exact ⟨g, hg, setRow_heap w g _ _ _ _ hh⟩
    · simp only [setNth, List.getElem?_set_ne e] at hc
      obtain ⟨g', hg', hh'⟩ := h.bx i c' hc
      exact ⟨g', hg', by rw [heap_setRow g _ _ (fun e' => e (h.inj b i g hg (by rw [hg', e'])))]; exact hh'⟩
  · refine ⟨h.nx.os, h.nx.tape, h.nx.output, by simpa [World.setRow] using h.nx.size, fun k hk hn => ?_, h.nx.fresh, fun k o hk => ?_⟩
    · rw [heap_setRow g _ k (by have := h.old b g hg; omega)]; exact h.nx.keep k hk hn
    · rw [heap_setRow g _ k (fun e => by subst e; rw [h.nloc b _ hg] at hk; cases hk)]; exact h.sees k o hk
end
end Go.Vx

/- The executor's steps of memory: each is met by the model's own step. -/
namespace Go.Vx
section
variable {P : Program} {β : Nat → Option Nat} {st : St} {a : Act} {w : World} {bx : List Box} {H H' H0 : PHeap} {w0 : World} {pd : List (Nat × Obj)}
  {next : Act → World → Prop} {Q : Exit → Act → World → Prop} {o : Oper}

/-- What a step of memory hands on. -/
def Hands (pd : List (Nat × Obj)) (H0 : PHeap) (w0 : World) (β : Nat → Option Nat) (st : St) (a : Act) (lc : Bool) (K : SV → St → PHeap → Prop) (F : Value → World → Prop) : Prop :=
  ∀ sv st' H' β' y w', K sv st' H' → sv.conc β' y → J pd H0 w0 β' st' H' a w' → Ext β st.bx β' st'.bx → st'.tm = st.tm → (lc = false → ∀ (i : Nat) (c : Box), st.bx[i]? = some c → st'.bx[i]? = some c) → F y w'

variable {r : Option Nat}
theorem semAt_of {n : Next} {w' : World} (h : (execOp a.eval o).run P w = .ok n w') (hn : ∀ d, n ≠ .defer d) : Oper.semAt r a.eval o = execOp a.eval o := by
  refine Oper.semAt_eq r a.eval o fun c hc => ?_
  simp only [execOp, hc, Sem.run_bind] at h
  cases hd : (resolve a.eval c o.type).run P w with
  | ok d w1 => rw [hd] at h; simp [Result.andThen] at h; exact hn _ h.1.symm
  | halt x w1 => rw [hd] at h; simp [Result.andThen] at h
theorem callsIn_rf {f : FuncId} {args : Array Value} {R : Ending → World → Prop} (n : Nat) (h : Calls P f args w R) : CallsIn (RF r) n P f args w R := callsIn_wide.2 h
theorem roundIn_rf {l : Nat} {f : FuncId} {tmps : Array Value} {assign body : Code} {R : Ending → World → Prop} (n : Nat) (h : RoundIn (RF none) 0 P l f tmps assign body w R) : RoundIn (RF r) n P l f tmps assign body w R := by
  refine ⟨trivial, fun c cs _ => h.2 c cs fun _ hd => ?_⟩
  cases hd
theorem opOk_of {lc : Bool} {n : Next} {w' : World} (h : (execOp a.eval o).run P w = .ok n w') (hn : ∀ d, n ≠ .defer d) (h1 : o.uponIn (RF r) 0 P a next Q (.ok n w')) (h2 : lc = false → o.upon P a next Q (.ok n w')) : OpOk P r lc o a w next Q :=
  ⟨⟨fun _ _ => trivial, by rw [show (RF r).round = r from rfl, semAt_of h hn, h]; exact h1⟩, fun e => by unfold Oper.wp; rw [h]; exact h2 e⟩
theorem wp_value {lc : Bool} {v : Value} {w' : World} (h : (execOp a.eval o).run P w = .ok (.value v) w') (hn : next (a.put o.dst v) w') : OpOk P r lc o a w next Q :=
  opOk_of h (fun _ e => by cases e) hn fun _ => hn
theorem wp_skip' {lc : Bool} {w' : World} (h : (execOp a.eval o).run P w = .ok .skip w') (hn : next (a.put o.dst undef) w') : OpOk P r lc o a w next Q :=
  opOk_of h (fun _ e => by cases e) hn fun _ => hn
theorem exR_get {t : TypeId} {K : Value → SV → Prop} (h : exR P t K) : ∃ v sv, sv.conc β v ∧ K v sv := by
  unfold exR at h
  split at h
  · split at h
    · obtain ⟨l, hl⟩ := exVs_get h; exact ⟨_, .v (.tuple l.toArray), (rfl : SV.conc β (.v (.tuple l.toArray)) _), hl⟩
    · cases h
  · split at h
    · obtain ⟨v, hv⟩ := exV_get h; exact ⟨_, _, svOf_conc _ _, hv⟩
    · cases h
  · cases h
theorem run_callFunc {g : FuncId} {xs : Array Value} (h : goodF P g = true) : (callFunc g xs).run P w = .ok (.enter g xs) w := by
  unfold goodF at h
  split at h
  · rename_i fn hf
    simp only [Bool.and_eq_true, Bool.not_eq_true', beq_eq_false_iff_ne] at h
    obtain ⟨hb, hn⟩ := h
    have hb' : fn.body.isNone = false := by cases e : fn.body <;> simp_all
    simp only [callFunc, Sem.run_bind, run_program, Result.andThen_ok, hf]
    rw [if_neg (by simpa using hn), if_neg (by simp [hb'])]
    rfl
  · cases h
theorem wp_calls {g : FuncId} {xs : Array Value} {lc : Bool} {K : SV → St → PHeap → Prop} {t : TypeId} (hJ : J pd H0 w0 β st H a w) (h : (execOp a.eval o).run P w = .ok (.enter g xs) w)
    (hc : Calls P g xs w fun e w' => ∃ v H', e = .returned v ∧ Nx H H' w w' ∧ exR P t fun x sv => v = x ∧ K sv st H') (hk : Hands pd H0 w0 β st a lc K fun y w' => next (a.put o.dst y) w') : OpOk P r lc o a w next Q := by
  have key : Calls P g xs w fun e w' => ∃ v, e = .returned v ∧ next (a.put o.dst v) w' := by
    refine hc.mono ?_
    rintro e w' ⟨v, H', rfl, hn, hx⟩
    obtain ⟨x, sv, hcc, rfl, hK⟩ := exR_get (β := β) hx
    exact ⟨v, rfl, hk sv st H' β v w' hK hcc (hJ.step hn) (Ext.refl _ _) rfl fun _ _ _ h => h⟩
  refine opOk_of h (fun _ e => by cases e) ?_ fun _ => ?_
  · rw [Oper.uponIn_enter]
    refine ⟨fun e => by simp [RF] at e, callsIn_rf _ (key.mono ?_)⟩
    rintro e w' ⟨v, rfl, hn⟩
    exact hn
  · rw [Oper.upon_enter]
    refine key.mono ?_
    rintro e w' ⟨v, rfl, hn⟩
    exact hn
theorem wp_rounds {l : Nat} {g : FuncId} {tmps : Array Value} {assign body : Code} {K : SV → St → PHeap → Prop} {t : TypeId} (hJ : J pd H0 w0 β st H a w) (h : (execOp a.eval o).run P w = .ok (.round l g tmps assign body) w)
    (hc : RoundIn (RF none) 0 P l g tmps assign body w fun e w' => ∃ v H', e = .returned v ∧ Nx H H' w w' ∧ exR P t fun x sv => v = x ∧ K sv st H') (hk : Hands pd H0 w0 β st a true K fun y w' => next (a.put o.dst y) w') : OpOk P r true o a w next Q := by
  refine opOk_of h (fun _ e => by cases e) ?_ fun e => by cases e
  rw [Oper.uponIn_round]
  refine ⟨fun e => by simp [RF] at e, roundIn_rf _ (hc.mono ?_)⟩
  rintro e w' ⟨v, H', rfl, hn, hx⟩
  obtain ⟨x, sv, hcc, rfl, hK⟩ := exR_get (β := β) hx
  exact hk sv st H' β v w' hK hcc (hJ.step hn) (Ext.refl _ _) rfl fun _ _ _ h => h
theorem wp_evV {s : Sem Value} {lc : Bool} {K : SV → St → PHeap → Prop} {KK : Value → PHeap → Prop} (hJ : J pd H0 w0 β st H a w) (he : execOp a.eval o = (do pure (.value (← s)))) (h : EvV P s H KK)
    (hKK : ∀ v H', KK v H' → ∃ sv, sv.conc β v ∧ K sv st H') (hk : Hands pd H0 w0 β st a lc K fun y w' => next (a.put o.dst y) w') : OpOk P r lc o a w next Q := by
  obtain ⟨v, w', H', hr, hn, hK⟩ := h.out w hJ.sees
  obtain ⟨sv, hc, hK'⟩ := hKK v H' hK
  exact wp_value (w' := w') (by rw [he]; simp [hr]) (hk sv st H' β v w' hK' hc (hJ.step hn) (Ext.refl _ _) rfl fun _ _ _ h => h)
theorem wp_evU {s : Sem Unit} {lc : Bool} {K : SV → St → PHeap → Prop} (hJ : J pd H0 w0 β st H a w) (he : execOp a.eval o = (do s; pure .skip)) (h : EvU P s H fun H' => K .unk st H')
    (hk : Hands pd H0 w0 β st a lc K fun y w' => next (a.put o.dst y) w') : OpOk P r lc o a w next Q := by
  obtain ⟨w', H', hr, hn, hK⟩ := h.out w hJ.sees
  exact wp_skip' (w' := w') (by rw [he]; simp [hr]) (hk .unk st H' β undef w' hK trivial (hJ.step hn) (Ext.refl _ _) rfl fun _ _ _ h => h)
theorem evR_get {t : TypeId} {K : SV → St → PHeap → Prop} {v : Value} (h : exR P t fun x sv => v = x ∧ K sv st H') : ∃ sv, sv.conc β v ∧ K sv st H' := by
  obtain ⟨x, sv, hc, rfl, hK⟩ := exR_get (β := β) h
  exact ⟨sv, hc, hK⟩
theorem vNew_sound {cx : Cx} {lc : Bool} {K : SV → St → PHeap → Prop} {t : TypeId} {cells : List Value} (hJ : J pd H0 w0 β st H a w) (h : vNew cx o.dst st H t cells K)
    (hr : (execOp a.eval o).run P w = .ok (.value (.pointer (some ⟨w.heap.size, 0, none⟩))) (w.alloc (.cells cells.toArray t (0, 0)))) (hk : Hands pd H0 w0 β st a lc K fun y w' => next (a.put o.dst y) w') : OpOk P r lc o a w next Q := by
  refine wp_value hr ?_
  have hnone : H w.heap.size = none := by
    cases hh : H w.heap.size with
    | none => rfl
    | some o => have := hJ.sees.lt (k := w.heap.size) (by rw [hh]; simp); omega
  unfold vNew at h
  split at h
  · exact hk _ st _ β _ _ (h _ hnone) rfl (hJ.step (Nx.alloc hJ.sees _)) (Ext.refl _ _) rfl fun _ _ _ h => h
  · obtain ⟨β', hext, hb, hJ'⟩ := hJ.alloc cells t
    refine hk (.loc st.bx.length 0) _ H β' _ _ h ⟨_, hb, rfl⟩ hJ' hext rfl fun _ i c hc => ?_
    have hi : i < st.bx.length := (List.getElem?_eq_some_iff.1 hc).1
    show (st.bx ++ _)[i]? = _
    rw [List.getElem?_append_left hi]; exact hc
theorem Writes.sound {oa : Option Addr} {l : List Value} (h : Writes H H' oa l) (hs : Sees H w) : ∃ g off c e lo hi, oa = some ⟨g, off, none⟩ ∧ w.heap[g]? = some (.cells c e (lo, hi)) ∧ (∀ j, j < l.length → ¬ (lo ≤ off + j ∧ off + j < hi)) ∧ off + l.length ≤ c.size ∧
    Nx H H' w (w.setRow g (over c.toList off l).toArray) := by
  obtain ⟨ad, c, e, lo, hi, rfl, hsp, hH, hl, hf, rfl⟩ := h.out
  obtain ⟨g, off, sp⟩ := ad
  simp only at hsp
  subst hsp
  refine ⟨g, off, c, e, lo, hi, rfl, hs _ _ hH, hf, hl, ?_⟩
  exact Nx.setRow hs hH
theorem cells_arr (v : Value) : (cellsL v).toArray = v.cells := by rw [← cells_toList]
theorem args_map {xs : Array Operand} {l : List Value} (h : st.vals xs.toList = some l) (ht : TmOk β st a) : xs.map a.eval = l.toArray := by
  have := ht.vals h
  apply Array.ext'
  simpa using this
theorem flatten_range (z : List Value) (n : Nat) (hz : z.length = n) : ∀ len : Nat, ((List.range (len * n)).map fun i => z.toArray[i % n]!) = (List.replicate len z).flatten
  | 0 => by simp
  | len + 1 => by
    rw [Nat.succ_mul, List.range_add, List.map_append, flatten_range z n hz len, List.replicate_succ', List.flatten_append]
    congr 1
    simp only [List.map_map, List.flatten_cons, List.flatten_nil, List.append_nil]
    apply List.ext_getElem?
    intro i
    by_cases hi : i < n
    · simp [hi, Nat.mul_add_mod_of_lt hi, ← hz]
      have hi' : i < z.length := by omega
      simp [hi', Nat.mod_eq_of_lt hi']
    · rw [List.getElem?_eq_none (by simp; omega), List.getElem?_eq_none (by omega)]
theorem vCall_sound {c : Call} {lc : Bool} {K : SV → St → PHeap → Prop} (ho : o.op = .call c) (hJ : J pd H0 w0 β st H a w) (h : vCall P lc st H o c K) (hk : Hands pd H0 w0 β st a lc K fun y w' => next (a.put o.dst y) w') : OpOk P r lc o a w next Q := by
  have hex : execOp a.eval o = (do let d ← resolve a.eval c o.type; invoke d.target d.args) := by simp [execOp, ho]
  unfold vCall at h
  split at h
  · rename_i f args hcal hargs
    have hm := args_map hargs hJ.tm
    split at h
    · rename_i g first captured he
      have hf := hJ.tm.v he
      split at h
      · rename_i hgood
        refine wp_calls hJ ?_ (h.out w hJ.sees) hk
        rw [hex]
        simp only [resolve, hcal, hf, hm, Deferred.ofValue, Sem.run_bind, Sem.run_pure, Result.andThen_ok, invoke]
        have e : (first ++ args.toArray ++ captured) = (first.toList ++ args ++ captured.toList).toArray := by apply Array.ext'; simp
        rw [e]
        exact run_callFunc hgood
      · obtain ⟨v, w', H', hr, hn, hx⟩ := h.out w hJ.sees
        obtain ⟨x, sv, hcc, rfl, hK⟩ := exR_get (β := β) hx
        refine wp_value (v := v) (w' := w') ?_ (hk sv st H' β v w' hK hcc (hJ.step hn) (Ext.refl _ _) rfl fun _ _ _ h => h)
        rw [hex]
        simp only [resolve, hcal, hf, hm, Deferred.ofValue, Sem.run_bind, Sem.run_pure, Result.andThen_ok, invoke]
        have e : (first ++ args.toArray ++ captured) = (first.toList ++ args ++ captured.toList).toArray := by apply Array.ext'; simp
        rw [e]
        exact hr
    · rename_i fv he
      have hf := hJ.tm.ev f
      rw [he] at hf
      simp only [SV.conc] at hf
      cases lc with
      | true =>
        rcases h.out w hJ.sees with ⟨g, xs, hr, hc⟩ | ⟨l, g, tmps, assign, body, hr, hc⟩
        · refine wp_calls hJ ?_ hc hk
          rw [hex]
          simp only [resolve, hcal, hf, hm]
          exact hr
        · refine wp_rounds hJ ?_ hc hk
          rw [hex]
          simp only [resolve, hcal, hf, hm]
          exact hr
      | false =>
        obtain ⟨g, xs, hr, hc⟩ := h.out w hJ.sees
        refine wp_calls hJ ?_ hc hk
        rw [hex]
        simp only [resolve, hcal, hf, hm]
        exact hr
    · cases h
  · rename_i r name args hcal hargs
    have hm := args_map hargs hJ.tm
    split at h
    · rename_i rv hrv
      have hr := hJ.tm.val hrv
      obtain ⟨g, xs, hrun, hc⟩ := h.out w hJ.sees
      refine wp_calls hJ ?_ hc hk
      rw [hex]
      simp only [resolve, hcal, hr, hm, Sem.run_bind, Sem.run_pure, Result.andThen_ok]
      exact hrun
    · cases h
  · rename_i b args hcal hargs
    have hm := args_map hargs hJ.tm
    have hbi : ∀ s : Sem Value, (∀ q, Go.builtin b c.argTypes o.type q args.toArray = (do pure (.value (← s)))) → execOp a.eval o = (do pure (.value (← s))) := by
      intro s hs
      rw [hex]
      simp only [resolve, hcal, hm, pure_bind, invoke, hs]
    split at h
    · exact wp_evV hJ (hbi _ fun q => rfl) h (fun v H' hh => evR_get hh) hk
    · exact wp_evV hJ (hbi _ fun q => rfl) h (fun v H' hh => evR_get hh) hk
    · exact wp_evV hJ (hbi _ fun q => rfl) h (fun v H' hh => ⟨.unk, trivial, hh⟩) hk
    · exact wp_evV hJ (hbi _ fun q => rfl) h (fun v H' hh => ⟨.unk, trivial, hh⟩) hk
    · exact wp_evV hJ (hbi _ fun q => rfl) h (fun v H' hh => evR_get hh) hk
    · exact wp_evV hJ (hbi _ fun q => rfl) h (fun v H' hh => evR_get hh) hk
    · exact wp_evV hJ (hbi _ fun q => rfl) h (fun v H' hh => evR_get hh) hk
    · exact wp_evV hJ (hbi _ fun q => rfl) h (fun v H' hh => evR_get hh) hk
    · exact wp_evV hJ (hbi _ fun q => rfl) h (fun v H' hh => evR_get hh) hk
    · cases h
  · cases h
theorem okThen_get {sv : SV} {v : Value} {K : List Value → Prop} (h : okThen sv v K) (hv : sv.val? = some v) : K (cellsL v) ∧ ∀ u ∈ cellsL v, okCell u = true := by
  unfold okThen at h
  split at h
  · rename_i u
    simp only [SV.val?, Option.some.injEq] at hv
    subst hv
    have e : cellsL u = [u] := by have := h.1.out; cases u <;> simp_all [okCell, cellsL]
    rw [e]
    exact ⟨h.2, by simpa using h.1.out⟩
  · split at h
    · rename_i hall; exact ⟨h, by simpa using hall⟩
    · cases h
theorem over_len {c l : List Value} {off : Nat} (h : off + l.length ≤ c.length) : (over c off l).length = c.length := by simp [over]; omega
theorem vEff_sound {cx : Cx} {lc : Bool} {K : SV → St → PHeap → Prop} (hJ : J pd H0 w0 β st H a w) (h : vEff cx P lc st H o K) (hk : Hands pd H0 w0 β st a lc K fun y w' => next (a.put o.dst y) w') : OpOk P r lc o a w next Q := by
  have ht := hJ.tm
  obtain ⟨dst, op, type, pos, after, guard⟩ := o
  unfold vEff at h
  cases op <;> simp only at h <;> try (cases h; done)
  case alloc t =>
    split at h
    · rename_i z hz
      refine vNew_sound hJ h ?_ hk
      simp [execOp, Instr.alloc, run_zero hz, newVar, newRow, cells_arr]
    · cases h
  case box t x =>
    split at h
    · rename_i v hv
      obtain ⟨h, _⟩ := okThen_get h hv
      refine vNew_sound hJ h ?_ hk
      simp [execOp, Instr.box, ht.val hv, newVar, newRow, cells_arr]
    · cases h
  case store t ad x =>
    split at h
    · rename_i b off v n he hv hn
      obtain ⟨h2, hok⟩ := okThen_get h hv
      clear h
      split at h2
      · rename_i c cs hd
        split at h2
        · cases h2
        · rename_i hfz
          split at h2
          · rename_i hl
            have hb := drop_cons hd
            have ha := ht.ev ad
            rw [he] at ha
            obtain ⟨g, hg, ha⟩ := ha
            obtain ⟨g', hg', hh⟩ := hJ.bx b c hb
            rw [hg] at hg'
            obtain rfl := Option.some.inj hg'
            have hlen : off + (cellsL v).length ≤ c.cells.length := by omega
            obtain ⟨hext, hJ'⟩ := hJ.store hb hg (by simpa using hfz) (over c.cells off (cellsL v)) (over_len hlen)
            have hrun := run_storeVar_gen (P := P) (t := t) (v := v) (o := off) (by rw [hn, hl.1]) hh (fun j _ => by omega) (by simpa using hlen) hok
            refine wp_skip' (w' := w.setRow g (over c.cells off (cellsL v)).toArray) ?_ (hk .unk _ H β undef _ h2 trivial hJ' hext rfl fun hx => by cases hx)
            simp [execOp, ha, ht.val hv, Instr.storeAt, Instr.sureAddr, hrun]
          · cases h2
      · cases h2
    · rename_i oa v n he hv hn
      obtain ⟨h2, hok⟩ := okThen_get h hv
      clear h
      split at h2
      · rename_i hl
        obtain ⟨H', hw, hK⟩ := h2
        obtain ⟨g, off, c, e, lo, hi, rfl, hg, hf, hlen, hnx⟩ := hw.sound hJ.sees
        have hrun := run_storeVar_gen (P := P) (t := t) (v := v) (by rw [hn, hl]) hg hf hlen hok
        refine wp_skip' (w' := w.setRow g (over c.toList off (cellsL v)).toArray) ?_ (hk .unk st H' β undef _ hK trivial (hJ.step hnx) (Ext.refl _ _) rfl fun _ _ _ h => h)
        simp [execOp, ht.v he, ht.val hv, Instr.storeAt, Instr.sureAddr, hrun]
      · cases h2
    · cases h
  case buildSlice t len parts =>
    split at h
    · rename_i e ps hu hps
      split at h
      · rename_i n z hn hz
        split at h
        · rename_i cells h1 h2 h3
          have h1 := of_decide_eq_true h1
          have h2 := of_decide_eq_true h2
          have hnone : H w.heap.size = none := by
            cases hh : H w.heap.size with
            | none => rfl
            | some o => have := hJ.sees.lt (k := w.heap.size) (by rw [hh]; simp); omega
          refine wp_value (w' := w.alloc (.cells cells.toArray e (0, 0))) (v := .slice (some ⟨w.heap.size, 0, none⟩) len len) ?_ (hk _ st _ β _ _ (h _ hnone) rfl (hJ.step (Nx.alloc hJ.sees _)) (Ext.refl _ _) rfl fun _ _ _ h => h)
          have e1 : (parts.map fun (i, x) => (i, a.eval x)).toList = ps := by
            have := ht.partVals hps
            rw [← this]; simp
          have e2 : ((Array.range (len * n)).map fun i => (cellsL z).toArray[i % n]!) = ((List.replicate len (cellsL z)).flatten).toArray := by
            apply Array.ext'
            rw [← flatten_range (cellsL z) n h2 len]
            simp
          have e3 := fill_eq (fun i => some (i * n, n)) ps ((List.replicate len (cellsL z)).flatten).toArray cells (by simpa using h3)
          have e4 : ¬ (len * n > 2 ^ 24) := by omega
          have hsz : z.cells = (cellsL z).toArray := (cells_arr z).symm
          have hsz' : z.cells.size = n := by rw [cells_size]; exact h2
          by_cases h0 : len * n = 0
          · have e5 : ((List.replicate len (cellsL z)).flatten) = [] := by
              rw [← flatten_range (cellsL z) n h2 len, h0]; rfl
            rw [e5] at e3
            have e6 : ∀ z : Array Value, (Array.map (fun x => z[x % z.size]!) (Array.range 0)) = #[] := fun z => by apply Array.ext'; simp
            have e7 : ¬ ((0 : Nat) > 2 ^ 24) := by omega
            simp only [execOp, Instr.buildSlice, Sem.run_bind, run_und hu, Result.andThen_ok, run_size hn, h0, if_neg e7, if_true, e1, e6, e3, Sem.run_pure]
            simp [newRow]
          · simp only [execOp, Instr.buildSlice, Sem.run_bind, run_und hu, Result.andThen_ok, run_size hn, e4, if_false, Sem.run_pure, h0, e1, run_zero hz]
            rw [hsz', hsz, e2, e3]
            simp [newRow]
        · cases h
      · cases h
    · cases h
  case call c => exact vCall_sound rfl hJ h hk
  case mapUpdate t m k x =>
    split at h
    · rename_i vm vk vx hm hk' hx
      exact wp_evU hJ (by simp [execOp, ht.val hm, ht.val hk', ht.val hx]) h hk
    · cases h
  case insert t m k x =>
    split at h
    · rename_i vm vk vx hm hk' hx
      exact wp_evU hJ (by simp [execOp, ht.val hm, ht.val hk', ht.val hx]) h hk
    · cases h
  case mapEntry t m k =>
    split at h
    · rename_i vm vk kt e hm hk' hu
      split at h
      · rename_i z hz
        refine wp_evV hJ (by simp [execOp, ht.val hm, ht.val hk']) h (fun v H' hh => ?_) hk
        obtain ⟨x, n, rfl, hK⟩ := exV_get hh
        exact ⟨.v _, rfl, hK⟩
      · cases h
    · cases h
  case entryStore t m s x =>
    split at h
    · rename_i vm vk vx hm hk' hx
      exact wp_evU hJ (by simp [execOp, ht.val hm, ht.val hk', ht.val hx]) h hk
    · cases h
  case makeMap t r =>
    split at h
    · rename_i vr hr
      refine wp_evV hJ (by simp [execOp, ht.optVal hr]) h (fun v H' hh => ?_) hk
      obtain ⟨m, rfl, hK⟩ := hh
      exact ⟨.v _, rfl, hK⟩
    · cases h
  case makeSlice t l c =>
    split at h
    · rename_i vl vc hl hc
      refine wp_evV hJ (by simp [execOp, ht.val hl, ht.val hc]) h (fun v H' hh => ?_) hk
      obtain ⟨x, y, z, rfl, hK⟩ := hh
      exact ⟨.v _, rfl, hK⟩
    · cases h
  case range t x =>
    split at h
    · rename_i vx hx
      refine wp_evV hJ (by simp [execOp, ht.val hx]) h (fun v H' hh => ?_) hk
      obtain ⟨m, rfl, hK⟩ := hh
      exact ⟨.v _, rfl, hK⟩
    · cases h
  case next it s =>
    split at h
    · rename_i vi hi
      refine wp_evV hJ (by simp [execOp, ht.val hi]) h (fun v H' hh => ?_) hk
      rcases hh with ⟨rfl, hK⟩ | hh
      · exact ⟨.v _, rfl, hK⟩
      · cases s with
        | true =>
          obtain ⟨i, c, rfl, hK⟩ := hh
          exact ⟨.v _, rfl, hK⟩
        | false =>
          obtain ⟨k, x, rfl, hK⟩ := hh
          exact ⟨.v _, rfl, hK⟩
    · cases h
  case entry it =>
    split at h
    · rename_i vi ts hi hu
      split at h
      · rename_i zs hz
        refine wp_evV hJ (by simp [execOp, ht.val hi]) h (fun v H' hh => ?_) hk
        obtain ⟨l, rfl, hK⟩ := exVs_get hh
        exact ⟨.v _, rfl, hK⟩
      · cases h
    · cases h
  case convert src dst x =>
    split at h
    · rename_i vx hx
      exact wp_evV hJ (by simp [execOp, ht.val hx]) h (fun v H' hh => evR_get hh) hk
    · cases h
  case typeAssert x xt at_ ok =>
    split at h
    · rename_i vx hx
      exact wp_evV hJ (by simp [execOp, ht.val hx]) h (fun v H' hh => evR_get hh) hk
    · cases h
end
end Go.Vx

/- The executor's lists of operations: what is to be shown is enough. -/
namespace Go.Vx
section
variable {P : Program} {β : Nat → Option Nat} {st : St} {a : Act} {w : World} {bx : List Box} {H H' H0 : PHeap} {w0 : World} {pd : List (Nat × Obj)}
  {Q : Exit → Act → World → Prop} {ops : Array Oper} {cx : Cx}

/-- Slots beside W are what they were. -/
structure Kp (W : List Tmp) (a a' : Act) : Prop where
  size : a'.tmps.size = a.tmps.size
  at_ : ∀ t, t ∉ W → a'.tmps.getD t undef = a.tmps.getD t undef
theorem Kp.refl (W : List Tmp) (a : Act) : Kp W a a := ⟨rfl, fun _ _ => rfl⟩
theorem Kp.trans {W : List Tmp} {a a' a'' : Act} (h : Kp W a a') (h' : Kp W a' a'') : Kp W a a'' := ⟨h'.size.trans h.size, fun t ht => (h'.at_ t ht).trans (h.at_ t ht)⟩
theorem Kp.mono {W W' : List Tmp} {a a' : Act} (h : Kp W a a') (hs : ∀ t, t ∈ W → t ∈ W') : Kp W' a a' := ⟨h.size, fun t ht => h.at_ t fun hm => ht (hs t hm)⟩
theorem put_size (d : Option Tmp) (y : Value) : (a.put d y).tmps.size = a.tmps.size := by cases d <;> simp [Act.put]
theorem Kp.step {i : Nat} {is : List Nat} {o : Oper} {a' : Act} {y : Value} (ho : ops[i]? = some o) (h : Kp (writtenAt ops is) (a.put o.dst y) a') : Kp (writtenAt ops (i :: is)) a a' := by
  refine ⟨by rw [h.size, put_size], fun t ht => ?_⟩
  have hd : dstOf ops i = o.dst := by simp [dstOf, ho]
  simp only [writtenAt] at ht
  rw [hd] at ht
  cases e : o.dst with
  | none =>
    rw [e] at ht
    simp only at ht
    rw [h.at_ t ht, put_other (by rw [e]; simp)]
  | some d =>
    rw [e] at ht
    simp only [List.mem_cons, not_or] at ht
    rw [h.at_ t ht.2, put_other (by rw [e]; simp; exact fun e => ht.1 e.symm)]
theorem writtenAt_range (ops : Array Oper) (l : List Nat) : ∀ t, t ∈ writtenAt ops l → t ∈ writtenOps ops := by
  induction l with
  | nil => intro t ht; simp [writtenAt] at ht
  | cons i is ih =>
    intro t ht
    simp only [writtenAt] at ht
    split at ht
    · rename_i d hd
      rcases List.mem_cons.1 ht with rfl | ht
      · simp only [dstOf_eq] at hd
        cases ho : ops[i]? with
        | none => rw [ho] at hd; cases hd
        | some o =>
          rw [ho] at hd
          simp only [writtenOps, List.mem_filterMap]
          exact ⟨o, by simpa using Array.mem_of_getElem? ho, hd⟩
      · exact ih t ht
    · exact ih t ht

theorem BxOk.mono {β0 : Nat → Option Nat} (h : BxOk β0 bx w) (he : ∀ i g, β0 i = some g → β i = some g) : BxOk β bx w := fun i c hc => let ⟨g, hg, hh⟩ := h i c hc; ⟨g, he i g hg, hh⟩
/-- What an operation may do to the world where an order is drawn. -/
def DrawT (cx : Cx) (P : Program) (ops : Array Oper) (β0 : Nat → Option Nat) (bx0 : List Box) (Hs : PHeap) (j : Nat) (w w' : World) : Prop := w' = w ∨ (BxOk β0 bx0 w' ∧ (keepB cx P ops j = true → Sees Hs w'))
/-- What the two modes ask. -/
structure Md (cx : Cx) (P : Program) (ops : Array Oper) (β0 : Nat → Option Nat) (bx0 : List Box) (Hs : PHeap) (lc : Bool) (T : Nat → World → World → Prop) (Adm : Nat → (World → Prop) → Prop) : Prop where
  text : lc = true → (∀ j w w', T j w w') ∧ ∀ i S, Adm i S
  draw : lc = false → (∀ j w w', DrawT cx P ops β0 bx0 Hs j w w' → T j w w') ∧ ∀ i S, Stays ops (DrawT cx P ops β0 bx0 Hs) i S → Adm i S
structure DmIn (cx : Cx) (P : Program) (ops : Array Oper) (β0 : Nat → Option Nat) (bx0 : List Box) (Hs : PHeap) (β : Nat → Option Nat) (st : St) (H : PHeap) (w : World) (l : List Nat) (d : Dm) : Prop where
  bx : d.bx = bx0
  box : ∀ (i : Nat) (c : Box), bx0[i]? = some c → st.bx[i]? = some c
  beta : ∀ i g, β0 i = some g → β i = some g
  ok : BxOk β0 bx0 w
  hs : (d.on = true ∧ d.hs = Hs ∧ Sub Hs H) ∨ (d.on = false ∧ (d.hs = fun _ => none) ∧ dropB cx P ops l = true)
def MdIn (cx : Cx) (P : Program) (ops : Array Oper) (β0 : Nat → Option Nat) (bx0 : List Box) (Hs : PHeap) (β : Nat → Option Nat) (st : St) (H : PHeap) (w : World) (l : List Nat) (lc : Bool) : Option Dm → Prop
  | none => lc = true
  | some d => lc = false ∧ DmIn cx P ops β0 bx0 Hs β st H w l d
theorem dropB_tail {i : Nat} {is : List Nat} (h : dropB cx P ops (i :: is) = true) : dropB cx P ops is = true := by
  unfold dropB at *
  rw [List.all_cons, Bool.and_eq_true] at h
  exact h.2
theorem dropB_head {i : Nat} {is : List Nat} {o : Oper} (ho : ops[i]? = some o) (hq : quietOp P o = false) (h : dropB cx P ops (i :: is) = true) : keepB cx P ops i = false := by
  unfold dropB at h
  rw [List.all_cons, Bool.and_eq_true] at h
  have := h.1
  rw [ho] at this
  simpa [hq] using this
theorem stays_bx (β0 : Nat → Option Nat) (bx0 : List Box) (Hs : PHeap) (i : Nat) : Stays ops (DrawT cx P ops β0 bx0 Hs) i (BxOk β0 bx0) := by
  intro listed j _ _ _ w w' hT hS
  rcases hT with rfl | h
  · exact hS
  · exact h.1
theorem stays_load (β0 : Nat → Option Nat) (bx0 : List Box) (Hs : PHeap) {i : Nat} {o : Oper} (ho : ops[i]? = some o) (hl : isHL cx P o = true) : Stays ops (DrawT cx P ops β0 bx0 Hs) i (fun w => BxOk β0 bx0 w ∧ Sees Hs w) := by
  intro listed j hc hun hj w w' hT hS
  rcases hT with rfl | h
  · exact hS
  · exact ⟨h.1, h.2 (keepB_of hc ho hl hun hj)⟩

theorem vOps_sound {r : Option Nat} {β0 : Nat → Option Nat} {bx0 : List Box} {Hs : PHeap} {lc : Bool} {ι : Type} {T : Nat → World → World → Prop} {Adm : Nat → (World → Prop) → Prop} {W : ι → List Nat → Act → World → Prop} (hR : Runs P r ops Q lc T Adm W) (hM : Md cx P ops β0 bx0 Hs lc T Adm) {K : St → PHeap → Prop} :
    ∀ (l : List Nat) {dm : Option Dm} {st : St} {H : PHeap} {β : Nat → Option Nat} {a : Act} {w : World} (x : ι), vOps cx P ops dm l st H K → J pd H0 w0 β st H a w → MdIn cx P ops β0 bx0 Hs β st H w l lc dm →
      (∀ β' st' H' a' w', K st' H' → J pd H0 w0 β' st' H' a' w' → Ext β st.bx β' st'.bx → Kp (writtenAt ops l) a a' → Q .normal a' w') → W x l a w
  | [], dm, st, H, β, a, w, x, h, hJ, hI, hK => hR.nil x a w (hK β st H a w (by rw [vOps] at h; exact h) hJ (Ext.refl _ _) (Kp.refl _ _))
  | i :: is, dm, st, H, β, a, w, x, h, hJ, hI, hK => by
    have go : ∀ {st1 : St} {o : Oper}, ops[i]? = some o → J pd H0 w0 β st1 H a w → st1.bx = st.bx → Region.wanted o (yielded ops a.tmps) = true →
        vStep cx P dm (dropB cx P ops (i :: is)) st1 H o (fun dm sv st H => vOps cx P ops dm is (st.put o.dst sv) H K) → W x (i :: is) a w := by
      intro st1 o ho hJ1 hbx hwn hs
      have cont : ∀ (dm' : Option Dm) (sv : SV) (st' : St) (H' : PHeap) (β' : Nat → Option Nat) (y : Value) (w' : World), vOps cx P ops dm' is (st'.put o.dst sv) H' K → sv.conc β' y → J pd H0 w0 β' st' H' a w' → Ext β st.bx β' st'.bx → MdIn cx P ops β0 bx0 Hs β' st' H' w' is lc dm' → ∀ x', W x' is (a.put o.dst y) w' := by
        intro dm' sv st' H' β' y w' hv hc hJ' hext hI' x'
        refine vOps_sound hR hM is x' hv (hJ'.put o.dst hc) ?_ fun β'' st'' H'' a'' w'' hk hJ'' hext' hkp => hK β'' st'' H'' a'' w'' hk hJ'' (hext.trans (by rw [put_bx] at hext'; exact hext')) (hkp.step ho)
        cases dm' with
        | none => exact hI'
        | some d => exact ⟨hI'.1, ⟨hI'.2.bx, fun j c hj => by rw [put_bx]; exact hI'.2.box j c hj, hI'.2.beta, hI'.2.ok, hI'.2.hs⟩⟩
      unfold vStep at hs
      split at hs
      · -- the order of the text
        have hlc : lc = true := hI
        subst hlc
        have hM' := hM.text rfl
        split at hs
        · rename_i hq
          obtain ⟨sv, y, hk, hc, hr⟩ := vQuietT_sound hJ1.tm hs
          exact hR.quiet x i is o a w y ho hq (fun w' => w' = w) (hM'.2 _ _) rfl (.inl ⟨hwn, fun w' e => by subst e; exact hr w' hJ1.bx hJ1.sees⟩) fun x' => cont none sv st1 H β y w hk hc hJ1 (by rw [hbx]; exact Ext.refl _ _) rfl x'
        · rename_i hq
          refine hR.eff x i is o a w ho (by simpa using hq) hwn (vEff_sound hJ1 hs ?_)
          intro sv st' H' β' y w' hk hc hJ' hext htm _
          exact ⟨hM'.1 _ _ _, fun x' => cont none sv st' H' β' y w' hk hc hJ' (by rw [hbx] at hext; exact hext) rfl x'⟩
      · -- an order that is drawn
        rename_i d
        obtain ⟨hlc, hD⟩ := hI
        subst hlc
        have hM' := hM.draw rfl
        have hD1 : DmIn cx P ops β0 bx0 Hs β st1 H w is d := ⟨hD.bx, fun j c hj => by rw [hbx]; exact hD.box j c hj, hD.beta, hD.ok, hD.hs.imp id fun h => ⟨h.1, h.2.1, dropB_tail h.2.2⟩⟩
        split at hs
        · rename_i hq
          cases hlo : lclLoad cx o with
          | true =>
            simp only [hlo] at hs
            obtain ⟨sv, y, hk, hc, hr, hr2⟩ := vQuiet_sound hJ1.tm hs
            have fin : ∀ x', W x' is (a.put o.dst y) w := fun x' => cont (some d) sv st1 H β y w hk hc hJ1 (by rw [hbx]; exact Ext.refl _ _) ⟨rfl, hD1⟩ x'
            rw [hD.bx] at hr
            exact hR.quiet x i is o a w y ho hq _ (hM'.2 _ _ (stays_bx β0 bx0 Hs i)) hD.ok (.inl ⟨hwn, fun w' e => hr w' (BxOk.mono e hD.beta) (fun k o hk => by cases hk)⟩) fin
          | false =>
          simp only [hlo] at hs
          obtain ⟨sv, y, hk, hc, hr, hr2⟩ := vQuiet_sound hJ1.tm hs
          have fin : ∀ x', W x' is (a.put o.dst y) w := fun x' => cont (some d) sv st1 H β y w hk hc hJ1 (by rw [hbx]; exact Ext.refl _ _) ⟨rfl, hD1⟩ x'
          rw [hD.bx] at hr hr2
          cases hld : isLoad P o with
          | false => exact hR.quiet x i is o a w y ho hq _ (hM'.2 _ _ (stays_bx β0 bx0 Hs i)) hD.ok (.inl ⟨hwn, fun w' e => hr2 hld w' (BxOk.mono e hD.beta)⟩) fin
          | true =>
            rcases hD.hs with ⟨_, he, hsub⟩ | ⟨_, he, _⟩
            · rw [he] at hr
              exact hR.quiet x i is o a w y ho hq _ (hM'.2 _ _ (stays_load β0 bx0 Hs ho (by unfold isHL; rw [hld, hlo]; rfl))) ⟨hD.ok, fun k o hk => hJ1.sees k o (hsub.le k o hk)⟩ (.inl ⟨hwn, fun w' e => hr w' (BxOk.mono e.1 hD.beta) e.2⟩) fin
            · rw [he] at hr
              exact hR.quiet x i is o a w y ho hq _ (hM'.2 _ _ (stays_bx β0 bx0 Hs i)) hD.ok (.inl ⟨hwn, fun w' e => hr w' (BxOk.mono e hD.beta) (fun k o hk => by cases hk)⟩) fin
        · rename_i hq
          have hq' : quietOp P o = false := by simpa using hq
          have after : ∀ (st' : St) (H' : PHeap) (β' : Nat → Option Nat) (w' : World), J pd H0 w0 β' st' H' a w' → Ext β st1.bx β' st'.bx → (∀ (j : Nat) (c : Box), st1.bx[j]? = some c → st'.bx[j]? = some c) →
              (∀ (j : Nat) (c : Box), bx0[j]? = some c → st'.bx[j]? = some c) ∧ (∀ j g, β0 j = some g → β' j = some g) ∧ BxOk β0 bx0 w' := by
            intro st' H' β' w' hJ' hext hlc
            have hpre : ∀ (j : Nat) (c : Box), bx0[j]? = some c → st'.bx[j]? = some c := fun j c hj => hlc j c (hD1.box j c hj)
            have hβ : ∀ j g, β0 j = some g → β' j = some g := fun j g hj => hext.beta j g (hD.beta j g hj)
            refine ⟨hpre, hβ, fun j c hj => ?_⟩
            obtain ⟨g0, hg0, _⟩ := hD.ok j c hj
            obtain ⟨g1, hg1, hh⟩ := hJ'.bx j c (hpre j c hj)
            rw [hβ j g0 hg0] at hg1
            obtain rfl := Option.some.inj hg1
            exact ⟨_, hg0, hh⟩
          split at hs
          · rename_i hon
            have hsub0 : d.hs = Hs := by
              rcases hD.hs with ⟨_, h, _⟩ | ⟨h, _⟩
              · exact h
              · rw [hon] at h; cases h
            split at hs
            · rename_i hdr
              refine hR.eff x i is o a w ho hq' hwn (vEff_sound hJ1 hs ?_)
              intro sv st' H' β' y w' hk hc hJ' hext htm hlc
              obtain ⟨p1, p2, p3⟩ := after st' H' β' w' hJ' hext (hlc rfl)
              refine ⟨hM'.1 _ _ _ (.inr ⟨p3, fun h => by rw [dropB_head ho hq' hdr] at h; cases h⟩), fun x' => cont _ sv st' H' β' y w' hk hc hJ' (by rw [hbx] at hext; exact hext) ⟨rfl, ⟨hD.bx, p1, p2, p3, .inr ⟨rfl, rfl, dropB_tail hdr⟩⟩⟩ x'⟩
            · refine hR.eff x i is o a w ho hq' hwn (vEff_sound hJ1 hs ?_)
              intro sv st' H' β' y w' hk hc hJ' hext htm hlc
              obtain ⟨p1, p2, p3⟩ := after st' H' β' w' hJ' hext (hlc rfl)
              rw [hsub0] at hk
              exact ⟨hM'.1 _ _ _ (.inr ⟨p3, fun _ k o hk' => hJ'.sees k o (hk.1.le k o hk')⟩), fun x' => cont _ sv st' H' β' y w' hk.2 hc hJ' (by rw [hbx] at hext; exact hext) ⟨rfl, ⟨hD.bx, p1, p2, p3, .inl ⟨hon, hsub0, hk.1⟩⟩⟩ x'⟩
          · rename_i hon
            have hdr : (d.hs = fun _ => none) ∧ dropB cx P ops (i :: is) = true := by
              rcases hD.hs with ⟨h, _⟩ | ⟨_, h⟩
              · rw [hon] at h; cases h
              · exact h
            refine hR.eff x i is o a w ho hq' hwn (vEff_sound hJ1 hs ?_)
            intro sv st' H' β' y w' hk hc hJ' hext htm hlc
            obtain ⟨p1, p2, p3⟩ := after st' H' β' w' hJ' hext (hlc rfl)
            exact ⟨hM'.1 _ _ _ (.inr ⟨p3, fun h => by rw [dropB_head ho hq' hdr.2] at h; cases h⟩), fun x' => cont _ sv st' H' β' y w' hk hc hJ' (by rw [hbx] at hext; exact hext) ⟨rfl, ⟨hD.bx, p1, p2, p3, .inr ⟨hon, hdr.1, dropB_tail hdr.2⟩⟩⟩ x'⟩
    have goSkip : ∀ {st1 : St} {o : Oper}, ops[i]? = some o → J pd H0 w0 β st1 H a w → st1.bx = st.bx → Region.wanted o (yielded ops a.tmps) = false →
        vOps cx P ops dm is (st1.put o.dst (.v undef)) H K → W x (i :: is) a w := by
      intro st1 o ho hJ1 hbx hwn hs
      refine hR.skip x i is o a w ho hwn fun x' => ?_
      refine vOps_sound hR hM is x' hs (hJ1.put o.dst rfl) ?_ fun β'' st'' H'' a'' w'' hk hJ'' hext' hkp => hK β'' st'' H'' a'' w'' hk hJ'' (by rw [put_bx, hbx] at hext'; exact hext') (hkp.step ho)
      cases dm with
      | none => exact hI
      | some d => exact ⟨hI.1, ⟨hI.2.bx, fun j c hj => by rw [put_bx, hbx]; exact hI.2.box j c hj, hI.2.beta, hI.2.ok, hI.2.hs.imp id fun h => ⟨h.1, h.2.1, dropB_tail h.2.2⟩⟩⟩
    rw [vOps] at h
    split at h
    · cases h
    · rename_i o ho
      split at h
      · cases h
      · rename_i w0' hg
        exact go ho hJ rfl (wanted_none hg _) h
      · rename_i t want hg
        have hget := hJ.tm.get t
        split at h
        · rename_i b hb
          rw [hb] at hget
          have hwb := wanted_bool hg hget
          split at h
          · rename_i he
            exact go ho hJ rfl (by rw [hwb, he]) h
          · rename_i he
            exact goSkip ho hJ rfl (by rw [hwb, he]) h
        · rename_i b hb
          rw [hb] at hget
          have hwb := wanted_bool hg hget
          split at h
          · rename_i st' hp
            have key : ∀ S : World → Prop, (∀ i, Adm i S) → (∀ w', S w' → BxOk β (dmBx dm st) w') → S w → W x (i :: is) a w := fun S hA hS hw =>
              pOps_sound hR hA hS hw (i :: is) x hp hJ.tm fun a' ha' => by
                have hb' := pOps_bx (i :: is) hp
                have hJ' : J pd H0 w0 β st' H a' w := ⟨ha'.tm, by rw [hb']; exact hJ.bx, by rw [hb']; exact hJ.dom, hJ.inj, hJ.nloc, hJ.old, hJ.nx, by rw [ha'.dfr]; exact hJ.dfr, hJ.pnd⟩
                refine hK β st' H a' w h hJ' (by rw [hb']; exact Ext.refl _ _) ⟨?_, ha'.keep⟩
                rw [ha'.tm.size, pOps_len _ hp, hJ.tm.size]
            cases dm with
            | none =>
              have hlc : lc = true := hI
              exact key (fun w' => w' = w) (fun i => (hM.text hlc).2 i _) (fun w' e => by subst e; exact hJ.bx) rfl
            | some d =>
              refine key (BxOk β0 bx0) (fun i => (hM.draw hI.1).2 i _ (stays_bx β0 bx0 Hs i)) (fun w' e => ?_) hI.2.ok
              show BxOk β d.bx w'
              rw [hI.2.bx]
              exact BxOk.mono e hI.2.beta
          · by_cases he : b = want
            · subst he
              exact go ho (hJ.kbAt (x := .tmp t) hget) (kbAt_bx _ _) (by rw [hwb]; simp) (h.1 rfl)
            · have hb' : b = !want := by cases b <;> cases want <;> simp_all
              have hget' : a.eval (.tmp t) = .bool (!want) := by rw [← hb']; exact hget
              exact goSkip ho (hJ.kbAt (x := .tmp t) hget') (kbAt_bx _ _) (by rw [hwb, hb']; cases want <;> rfl) (h.2 hb')
        · rename_i vs hb
          rw [hb] at hget
          exact goSkip ho hJ rfl (wanted_tuple hg hget) h
        · cases h

theorem quiet_sem {o : Oper} (h : quietOp P o = true) (r : Option Nat) (ρ : Operand → Value) : Oper.semAt r ρ o = execOp ρ o := by
  refine Oper.semAt_eq r ρ o fun c hc => ?_
  simp [quietOp, hc] at h
theorem wpOpsIn_cons' {F : Fence} {n : Nat} {i : Nat} {is : List Nat} {o : Oper} (ho : ops[i]? = some o) : wpOpsIn F n P ops Q (i :: is) a w =
    (if Region.wanted o (yielded ops a.tmps) then o.wpIn F n P a w (wpOpsIn F n P ops Q is) Q else (∀ f, o.about P w a.eval = some f → F.fn f) ∧ wpOpsIn F n P ops Q is (a.put o.dst undef) w) := by
  rw [wpOpsIn]; simp only [ho]
theorem textRuns {r : Option Nat} : Runs P r ops Q true (fun _ _ _ => True) (fun _ _ => True) (fun (_ : Unit) l a w => wpOpsIn (RF r) 0 P ops Q l a w) where
  nil _ a w h := h
  quiet x i is o a w y ho hq S hA hS hy h := by
    rw [wpOpsIn_cons' ho]
    rcases hy with ⟨hw, hv⟩ | ⟨hw, rfl⟩
    · rw [if_pos hw]
      refine ⟨fun _ _ => trivial, ?_⟩
      rw [quiet_sem hq, hv w hS]
      exact h x
    · rw [if_neg (by simp [hw])]
      exact ⟨fun _ _ => trivial, h x⟩
  skip x i is o a w ho hw h := by
    rw [wpOpsIn_cons' ho, if_neg (by simp [hw])]
    exact ⟨fun _ _ => trivial, h x⟩
  eff x i is o a w ho hq hw h := by
    rw [wpOpsIn_cons' ho, if_pos hw]
    exact Oper.wpIn_mono (fun a' w' h' => h'.2 x) h.inn
theorem drawRuns {T : Nat → World → World → Prop} (hs : Region.noSelect ops = true) (hQ : ∀ c a w, ¬ Q (.panic c) a w) (hT : ∀ i w, T i w w) :
    Runs P none ops Q false T (fun i S => Stays ops T i S) (fun (x : Array Bool) l a w => Closed ops x → drawOk P ops l.length x l = true → wpAnyL P ops Q T l.length x a w) where
  nil x a w h _ hd := ⟨by simpa [drawOk] using hd, h⟩
  quiet x i is o a w y ho hq S hA hS hy h hc hd := by
    simp only [List.length_cons, drawOk, ho, hq, if_true, Bool.and_eq_true] at hd
    have hr : i ∈ Region.ready .any ops x := by simpa using hd.1.2
    exact wpAnyL_first ho (Region.noSelect_spec hs) hQ hA (hT i) _ x a w hc (Region.free_spec ho hd.1.1) hr hy hS (h _ (closed_set hc hr) hd.2)
  skip x i is o a w ho hw h hc hd := by
    simp only [List.length_cons, drawOk, ho, Bool.and_eq_true] at hd
    have hr : i ∈ Region.ready .any ops x := by
      split at hd
      · have := hd.1; simp only [Bool.and_eq_true] at this; simpa using this.2
      · have := hd.1; simp at this; rw [this]; simp
    by_cases hq : quietOp P o = true
    · simp only [hq, if_true, Bool.and_eq_true] at hd
      exact wpAnyL_first (S := fun w' => w' = w' ) ho (Region.noSelect_spec hs) hQ (fun _ _ _ _ _ _ _ _ _ => rfl) (hT i) _ x a w hc (Region.free_spec ho hd.1.1) hr (.inr ⟨hw, rfl⟩) rfl (h _ (closed_set hc hr) hd.2)
    · simp only [hq, Bool.false_eq_true, if_false] at hd
      have hrs : Region.ready .any ops x = [i] := by simpa using hd.1
      refine ⟨fun h => (by rw [hrs] at h; cases h), fun j hj => ?_⟩
      rw [hrs] at hj
      simp only [List.mem_singleton] at hj
      subst hj
      unfold wpOp
      simp only [ho, hw]
      exact ⟨hT _ _, h _ (closed_set hc hr) hd.2⟩
  eff x i is o a w ho hq hw h hc hd := by
    simp only [List.length_cons, drawOk, ho, hq, Bool.and_eq_true, Bool.false_eq_true, if_false] at hd
    have hrs : Region.ready .any ops x = [i] := by simpa using hd.1
    refine ⟨fun h => (by rw [hrs] at h; cases h), fun j hj => ?_⟩
    rw [hrs] at hj
    simp only [List.mem_singleton] at hj
    subst hj
    unfold wpOp
    simp only [ho, hw, if_true]
    exact .inl (Oper.wp_mono (fun a' w' h' => ⟨h'.1, h'.2 _ (closed_set hc (by rw [hrs]; simp)) hd.2⟩) (h.plain rfl))
end
end Go.Vx

/- The executor's code: what is to be shown is enough. -/
namespace Go.Vx
section
variable {P : Program} {β : Nat → Option Nat} {st : St} {a : Act} {w : World} {bx : List Box} {H H' H0 : PHeap} {w0 : World}
  {Q : Exit → Act → World → Prop} {cx : Cx}

/-! ### Where ways meet -/
theorem find?_zip : ∀ (bs : List Nat) {st : St} {vs : List Value}, boxVals st bs = some vs → ∀ i, find? i (zipBoxes bs vs) = if i ∈ bs then (st.bx[i]?).map (·.cells) else none
  | [], st, vs, h, i => by simp [boxVals] at h; subst h; simp [zipBoxes, find?]
  | b :: bs, st, vs, h, i => by
    simp only [boxVals] at h
    split at h
    · rename_i c cs vs' hd hv
      split at h
      · cases h
      · obtain rfl := Option.some.inj h
        have hb := drop_cons hd
        simp only [zipBoxes, find?, cellsL]
        by_cases e : b = i
        · subst e; simp [hb]
        · have : (b == i) = false := by simpa using e
          rw [if_neg (by simp [this]), find?_zip bs hv i]
          have e' : ¬ i = b := fun h => e h.symm
          simp [e']
    · cases h
theorem boxVals_fz : ∀ (bs : List Nat) {st : St} {vs : List Value}, boxVals st bs = some vs → ∀ i c, i ∈ bs → st.bx[i]? = some c → c.fz = false
  | [], _, _, _, _, _, h, _ => by cases h
  | b :: bs, st, vs, h, i, c, hm, hc => by
    simp only [boxVals] at h
    split at h
    · rename_i c' cs vs' hd hv
      split at h
      · cases h
      · rename_i hf
        rcases List.mem_cons.1 hm with rfl | hm
        · rw [drop_cons hd] at hc
          obtain rfl := Option.some.inj hc
          simpa using hf
        · exact boxVals_fz bs hv i c hm hc
    · cases h
theorem freezeBut_get (bs : List Nat) : ∀ (k : Nat) (l : List Box) (i : Nat), (freezeBut bs k l)[i]? = (l[i]?).map fun c => if bs.contains (k + i) then c else { c with fz := true }
  | _, [], i => by simp [freezeBut]
  | k, c :: cs, 0 => by simp [freezeBut]
  | k, c :: cs, i + 1 => by
    simp only [freezeBut, List.getElem?_cons_succ, freezeBut_get bs (k + 1) cs i]
    rw [show k + 1 + i = k + (i + 1) by omega]
theorem putBoxes_get (m : List (Nat × List Value)) : ∀ (k : Nat) (l : List Box) (i : Nat), (putBoxes m k l)[i]? = (l[i]?).map fun c => match find? (k + i) m with | some cells => { c with cells := cells } | none => c
  | _, [], i => by simp [putBoxes]
  | k, c :: cs, 0 => by simp only [putBoxes, List.getElem?_cons_zero, Option.map_some, Nat.add_zero]; cases find? k m <;> rfl
  | k, c :: cs, i + 1 => by
    simp only [putBoxes, List.getElem?_cons_succ, putBoxes_get m (k + 1) cs i]
    rw [show k + 1 + i = k + (i + 1) by omega]
theorem freezeBut_len (bs : List Nat) (l : List Box) : ∀ k, (freezeBut bs k l).length = l.length := by
  induction l with
  | nil => intro k; rfl
  | cons c cs ih => intro k; simp [freezeBut, ih]
theorem putBoxes_len (m : List (Nat × List Value)) (l : List Box) : ∀ k, (putBoxes m k l).length = l.length := by
  induction l with
  | nil => intro k; rfl
  | cons c cs ih => intro k; simp [putBoxes, ih]
theorem unfreeze_get : ∀ (cs ds : List Box) (i : Nat), (unfreeze cs ds)[i]? = (ds[i]?).map fun d => match cs[i]? with | some c => { d with fz := c.fz } | none => d
  | [], ds, i => by cases ds <;> simp [unfreeze]
  | _ :: _, [], i => by simp [unfreeze]
  | c :: cs, d :: ds, 0 => by simp [unfreeze]
  | c :: cs, d :: ds, i + 1 => by simpa [unfreeze] using unfreeze_get cs ds i
theorem unfreeze_len (cs ds : List Box) : (unfreeze cs ds).length = ds.length := by
  apply Nat.le_antisymm
  · rcases Nat.lt_or_ge ds.length (unfreeze cs ds).length with h | h
    · have := unfreeze_get cs ds ds.length
      rw [List.getElem?_eq_getElem h] at this
      simp at this
    · exact h
  · rcases Nat.lt_or_ge (unfreeze cs ds).length ds.length with h | h
    · have := unfreeze_get cs ds (unfreeze cs ds).length
      rw [List.getElem?_eq_getElem h] at this
      simp at this
    · exact h
theorem J.reBox {bx' : List Box} (h : J [] H0 w0 β st H a w) (hl : bx'.length = st.bx.length) (hb : ∀ (i : Nat) (c : Box), bx'[i]? = some c → ∃ d : Box, st.bx[i]? = some d ∧ c.cells = d.cells ∧ c.ty = d.ty) : J [] H0 w0 β { st with bx := bx' } H a w := by
  refine ⟨h.tm.bx _, fun i c hc => ?_, fun i hi => h.dom i (by simpa [hl] using hi), h.inj, h.nloc, h.old, h.nx, h.dfr, h.pnd⟩
  obtain ⟨d, hd, e1, e2⟩ := hb i c hc
  obtain ⟨g, hg, hh⟩ := h.bx i d hd
  exact ⟨g, hg, by rw [e1, e2]; exact hh⟩
theorem J.frozen (h : J [] H0 w0 β st H a w) (bs : List Nat) : J [] H0 w0 β (frozenSt bs st) H a w := by
  refine h.reBox (freezeBut_len bs _ 0) fun i c hc => ?_
  rw [freezeBut_get] at hc
  cases hd : st.bx[i]? with
  | none => rw [hd] at hc; cases hc
  | some d =>
    rw [hd] at hc
    simp only [Option.map_some, Option.some.injEq] at hc
    subst hc
    refine ⟨d, rfl, ?_⟩
    split <;> exact ⟨rfl, rfl⟩
theorem J.unfrozen (h : J [] H0 w0 β st H a w) (cs : List Box) : J [] H0 w0 β { st with bx := unfreeze cs st.bx } H a w := by
  refine h.reBox (unfreeze_len cs _) fun i c hc => ?_
  rw [unfreeze_get] at hc
  cases hd : st.bx[i]? with
  | none => rw [hd] at hc; cases hc
  | some d =>
    rw [hd] at hc
    simp only [Option.map_some, Option.some.injEq] at hc
    subst hc
    refine ⟨d, rfl, ?_⟩
    split <;> exact ⟨rfl, rfl⟩

theorem forget_get (W : List Tmp) : ∀ (k : Nat) (l : List SV) (i : Nat), (forget W k l)[i]? = (l[i]?).map fun x => if W.contains (k + i) then .unk else x
  | _, [], i => by simp [forget]
  | k, x :: xs, 0 => by simp [forget]
  | k, x :: xs, i + 1 => by
    simp only [forget, List.getElem?_cons_succ, forget_get W (k + 1) xs i]
    rw [show k + 1 + i = k + (i + 1) by omega]
theorem forget_len (W : List Tmp) (l : List SV) : ∀ k, (forget W k l).length = l.length := by
  induction l with
  | nil => intro k; rfl
  | cons c cs ih => intro k; simp [forget, ih]
theorem slotVals_len : ∀ (ts : List Tmp) {st : St} {vs : List Value}, slotVals st ts = some vs → vs.length = ts.length
  | [], _, _, h => by simp [slotVals] at h; subst h; rfl
  | t :: ts, st, vs, h => by
    simp only [slotVals] at h
    split at h
    · rename_i v vs' hv hvs; obtain rfl := Option.some.inj h; simp [slotVals_len ts hvs]
    · cases h
/-- The slots told hold what they are told to. -/
theorem setSlots_ok : ∀ (ts : List Tmp) (tm : List SV) (fvs : List Bool) (la lb : List Value) {st' : St} {β₂ : Nat → Option Nat}, TmOk β ⟨tm, bx⟩ a → TmOk β₂ st' a → slotVals st' ts = some la →
    TmOk β ⟨(setSlots tm fvs ts (la ++ lb)).1, bx⟩ a ∧ (setSlots tm fvs ts (la ++ lb)).2 = lb
  | [], tm, fvs, la, lb, st', _, ht, _, h => by
    simp [slotVals] at h
    subst h
    simp only [setSlots, List.nil_append]
    exact ⟨ht, trivial⟩
  | t :: ts, tm, fvs, la, lb, st', _, ht, ht', h => by
    simp only [slotVals] at h
    split at h
    · rename_i v vs hv hvs
      obtain rfl := Option.some.inj h
      have hget : a.tmps.getD t undef = v := val_conc hv (ht'.get t)
      have h1 := ht.setTm t (sv := .v v) hget
      have h2 := ht.setTm t (sv := .fv v) hget
      simp only [List.cons_append, setSlots]
      cases fvs with
      | nil => exact setSlots_ok ts _ [] vs lb h1 ht' hvs
      | cons f fs => cases f
                     · exact setSlots_ok ts _ fs vs lb h1 ht' hvs
                     · exact setSlots_ok ts _ fs vs lb h2 ht' hvs
    · cases h
theorem setSlots_len : ∀ (ts : List Tmp) (tm : List SV) (fvs : List Bool) (l : List Value), (setSlots tm fvs ts l).1.length = tm.length
  | [], tm, fvs, l => by simp [setSlots]
  | t :: ts, tm, fvs, [] => by simp [setSlots]
  | t :: ts, tm, [], v :: l => by simp [setSlots, setSlots_len ts]
  | t :: ts, tm, true :: fs, v :: l => by simp [setSlots, setSlots_len ts]
  | t :: ts, tm, false :: fs, v :: l => by simp [setSlots, setSlots_len ts]

/-- Of the boxes at the place where ways meet, held against those where the piece of code began. -/
def BxLike (st : St) (bs : List Nat) (bx' : List Box) : Prop :=
  ∀ (i : Nat) (c : Box), st.bx[i]? = some c → ∃ c' : Box, bx'[i]? = some c' ∧ c'.ty = c.ty ∧ c'.cells.length = c.cells.length ∧ (i ∉ bs → c'.cells = c.cells)
theorem meetSt_eq (st : St) (W : List Tmp) (fvs : List Bool) (ts : List Tmp) (bs : List Nat) (l : List Value) :
    meetSt st W fvs ts bs l = ⟨(setSlots (forget W 0 st.tm) fvs ts l).1, putBoxes (zipBoxes bs (setSlots (forget W 0 st.tm) fvs ts l).2) 0 st.bx⟩ := rfl
theorem genVals_split {st' : St} {ts : List Tmp} {bs : List Nat} {l : List Value} (h : genVals st' ts bs = some l) : ∃ la lb, l = la ++ lb ∧ slotVals st' ts = some la ∧ boxVals st' bs = some lb := by
  unfold genVals at h
  split at h
  · rename_i la lb h1 h2; exact ⟨la, lb, (Option.some.inj h).symm, h1, h2⟩
  · cases h
/-- A way comes to where ways meet: the state there holds. 'st', 'a0': where the piece of code began; 'st'', 'a'': where the way comes. -/
theorem meet_J {st' : St} {β' : Nat → Option Nat} {a' : Act} {W : List Tmp} {fvs : List Bool} {ts : List Tmp} {bs : List Nat} {l : List Value} {a0 : Act} {H'' : PHeap} {w'' : World}
    (h0 : J [] H0 w0 β st H a0 w) (hJ : J [] H0 w0 β' st' H'' a' w'') (hβ : ∀ i g, β i = some g → β' i = some g) (hh : BxLike st bs st'.bx) (hkp : Kp W a0 a') (hl : genVals st' ts bs = some l) :
    J [] H0 w0 β (meetSt st W fvs ts bs l) H'' a' w'' ∧ BxLike st bs (meetSt st W fvs ts bs l).bx ∧ (meetSt st W fvs ts bs l).bx.length = st.bx.length ∧
      ∀ (i : Nat) (c d : Box), st.bx[i]? = some c → (meetSt st W fvs ts bs l).bx[i]? = some d → d.fz = c.fz := by
  obtain ⟨la, lb, rfl, hla, hlb⟩ := genVals_split hl
  have ht0 : TmOk β ⟨forget W 0 st.tm, st.bx⟩ a' := by
    refine ⟨by rw [hkp.size, h0.tm.size]; simp [forget_len], fun t sv hsv => ?_⟩
    rw [forget_get] at hsv
    cases e : st.tm[t]? with
    | none => rw [e] at hsv; cases hsv
    | some x =>
      rw [e] at hsv
      simp only [Option.map_some, Nat.zero_add, Option.some.injEq] at hsv
      subst hsv
      split
      · trivial
      · rename_i hn
        rw [hkp.at_ t (by simpa using hn)]
        exact h0.tm.at_ t x e
  obtain ⟨k1, k2⟩ := setSlots_ok (bx := st.bx) ts (forget W 0 st.tm) fvs la lb ht0 hJ.tm hla
  have hbx : ∀ (i : Nat), (meetSt st W fvs ts bs (la ++ lb)).bx[i]? = (st.bx[i]?).map fun c => if i ∈ bs then { c with cells := ((st'.bx[i]?).map (·.cells)).getD c.cells } else c := by
    intro i
    rw [meetSt_eq]
    simp only [k2]
    rw [putBoxes_get, Nat.zero_add, find?_zip bs hlb i]
    cases hc : st.bx[i]? with
    | none => rfl
    | some c =>
      simp only [Option.map_some, Option.some.injEq]
      by_cases hm : i ∈ bs
      · obtain ⟨c', hc', _⟩ := hh i c hc
        simp [hm, hc']
      · simp [hm]
  have hlen : (meetSt st W fvs ts bs (la ++ lb)).bx.length = st.bx.length := by rw [meetSt_eq]; exact putBoxes_len _ _ 0
  refine ⟨⟨by rw [meetSt_eq]; exact k1.bx _, fun i d hd => ?_, fun i hi => h0.dom i (by rw [hlen] at hi; exact hi), h0.inj, fun i g hg => hJ.nloc i g (hβ i g hg), h0.old, hJ.nx, hJ.dfr, fun _ h => (by cases h)⟩, fun i c hc => ?_, hlen, fun i c d hc hd => ?_⟩
  · rw [hbx i] at hd
    cases hc : st.bx[i]? with
    | none => rw [hc] at hd; cases hd
    | some c =>
      rw [hc] at hd
      simp only [Option.map_some, Option.some.injEq] at hd
      obtain ⟨c', hc', hty, hle, hfz⟩ := hh i c hc
      obtain ⟨g, hg, _⟩ := h0.bx i c hc
      obtain ⟨g', hg', hheap⟩ := hJ.bx i c' hc'
      rw [hβ i g hg] at hg'
      obtain rfl := Option.some.inj hg'
      refine ⟨g, hg, ?_⟩
      rw [hheap, hty]
      by_cases hm : i ∈ bs
      · rw [if_pos hm, hc'] at hd; subst hd; rfl
      · rw [if_neg hm] at hd; subst hd; rw [hfz hm]
  · obtain ⟨c', hc', hty, hle, hfz⟩ := hh i c hc
    rw [hbx i, hc]
    simp only [Option.map_some]
    by_cases hm : i ∈ bs
    · exact ⟨_, rfl, by rw [if_pos hm], by rw [if_pos hm, hc']; simpa using hle, fun h => absurd hm h⟩
    · exact ⟨_, rfl, by rw [if_neg hm], by rw [if_neg hm], fun _ => by rw [if_neg hm]⟩
  · rw [hbx i, hc] at hd
    simp only [Option.map_some, Option.some.injEq] at hd
    subst hd
    split <;> rfl
theorem BxLike.refl (st : St) (bs : List Nat) : BxLike st bs st.bx := fun _ c hc => ⟨c, hc, rfl, rfl, fun _ => rfl⟩
/-- What an extension of the frozen boxes at the head says. -/
theorem BxLike.ext {s1 : St} {bs : List Nat} {β' : Nat → Option Nat} {bx' : List Box} (h : BxLike st bs s1.bx) (he : Ext β (frozenSt bs s1).bx β' bx') : BxLike st bs bx' := by
  intro i c hc
  obtain ⟨d, hd, e1, e2, e3⟩ := h i c hc
  have hf : (frozenSt bs s1).bx[i]? = some (if bs.contains (0 + i) then d else { d with fz := true }) := by
    show (freezeBut bs 0 s1.bx)[i]? = _
    rw [freezeBut_get, hd]; rfl
  obtain ⟨c', h1, h2, h3, h4, h5⟩ := he.box i _ hf
  refine ⟨c', h1, ?_, ?_, fun hm => ?_⟩
  · rw [h2, ← e1]; split <;> rfl
  · rw [h4, ← e2]; split <;> rfl
  · have hn : bs.contains (0 + i) = false := by simpa using hm
    rw [← e3 hm]
    have := h5 (by rw [hn]; rfl)
    rw [this, hn]; rfl
theorem Ext.unfrozen {bs : List Nat} {β' : Nat → Option Nat} {bx' : List Box} (hβ : ∀ i g, β i = some g → β' i = some g) (hl : BxLike st bs bx') (hf : ∀ i c, i ∈ bs → st.bx[i]? = some c → c.fz = false) : Ext β st.bx β' (unfreeze st.bx bx') := by
  refine ⟨hβ, fun i c hc => ?_⟩
  obtain ⟨c', h1, h2, h3, h4⟩ := hl i c hc
  refine ⟨{ c' with fz := c.fz }, by rw [unfreeze_get, h1]; simp [hc], h2, rfl, h3, fun hz => h4 fun hm => ?_⟩
  rw [hf i c hm hc] at hz
  cases hz
theorem allLeaf_get {z v : Value} {K : Value → Prop} (h : allLeaf z K) (hf : fitLeaf z v = true) : K v := by
  cases z <;> cases v <;> simp only [fitLeaf, Bool.false_eq_true] at hf <;> simp only [allLeaf] at h <;> first
    | (obtain rfl := sameK_eq hf; exact h _)
    | exact h _ _ _
    | exact h _
theorem allLs_get : ∀ {zs l : List Value} {K : List Value → Prop}, allLs zs K → fitLs zs l = true → K l
  | [], [], K, h, _ => h
  | z :: zs, v :: l, K, h, hf => by
    simp only [fitLs, Bool.and_eq_true] at hf
    exact allLs_get (K := fun l => K (v :: l)) (allLeaf_get (K := fun v => allLs zs fun l => K (v :: l)) h hf.1) hf.2
  | [], _ :: _, _, _, hf => by simp [fitLs] at hf
  | _ :: _, [], _, _, hf => by simp [fitLs] at hf
theorem allV_get {z v : Value} {K : Value → Prop} (h : allV z K) (hf : fitV z v = true) : K v := by
  cases z
  case agg cs =>
    cases v <;> simp only [fitV, Bool.false_eq_true] at hf
    simp only [allV] at h
    exact allLs_get (K := fun l => K (.agg l.toArray)) h hf
  all_goals exact allLeaf_get (by simpa only [allV] using h) (by simpa only [fitV] using hf)
theorem allVs_get : ∀ {zs l : List Value} {K : List Value → Prop}, allVs zs K → fitVs zs l = true → K l
  | [], [], K, h, _ => h
  | z :: zs, v :: l, K, h, hf => by
    simp only [fitVs, Bool.and_eq_true] at hf
    exact allVs_get (K := fun l => K (v :: l)) (allV_get (K := fun v => allVs zs fun l => K (v :: l)) h hf.1) hf.2
  | [], _ :: _, _, _, hf => by simp [fitVs] at hf
  | _ :: _, [], _, _, hf => by simp [fitVs] at hf
theorem sameK_self (k : IntKind) : sameK k k = true := by cases k <;> rfl
theorem fitLeaf_self (v : Value) : fitLeaf v v = true := by cases v <;> simp [fitLeaf, sameK_self]
theorem fitLs_self : ∀ l : List Value, fitLs l l = true
  | [] => rfl
  | v :: l => by simp [fitLs, fitLeaf_self, fitLs_self l]
theorem fitV_self (v : Value) : fitV v v = true := by cases v <;> simp [fitV, fitLs_self, fitLeaf_self]
theorem fitVs_self : ∀ l : List Value, fitVs l l = true
  | [] => rfl
  | v :: l => by simp [fitVs, fitV_self, fitVs_self l]
end
end Go.Vx

/- The executor's regions whose order is drawn, with new blocks among what may come up: a block is made at any time, and told of where the list of operations has it. -/
namespace Go.Vx
section
variable {P : Program} {β : Nat → Option Nat} {st : St} {a : Act} {w : World} {H H' H0 : PHeap} {w0 : World} {pd : List (Nat × Obj)}
  {Q : Exit → Act → World → Prop} {ops : Array Oper} {cx : Cx}

theorem bool_not {b c : Bool} (h : b ≠ c) : b = !c := by cases b <;> cases c <;> simp_all
/-! ### One such operation -/
def fval (o : Oper) (k : Nat) : Value :=
  match o.op with
  | .buildSlice _ len _ => .slice (some ⟨k, 0, none⟩) len len
  | _ => .pointer (some ⟨k, 0, none⟩)
def FRun (P : Program) (a : Act) (o : Oper) (b : Obj) : Prop := ∀ w : World, (execOp a.eval o).run P w = .ok (.value (fval o w.heap.size)) (w.alloc b)
theorem fcells_run {o : Oper} {c : List Value} {t : TypeId} (ht : TmOk β st a) (h : fcells P st o = some (c, t)) : FRun P a o (.cells c.toArray t (0, 0)) := by
  obtain ⟨dst, op, type, pos, after, guard⟩ := o
  intro w
  unfold fcells at h
  cases op <;> simp only at h <;> try (cases h; done)
  case alloc t' =>
    split at h
    · rename_i z hz
      simp only [Option.some.injEq, Prod.mk.injEq] at h
      obtain ⟨rfl, rfl⟩ := h
      simp [execOp, Instr.alloc, run_zero hz, newVar, newRow, cells_arr, fval]
    · cases h
  case box t' x =>
    split at h
    · rename_i v hv
      simp only [Option.some.injEq, Prod.mk.injEq] at h
      obtain ⟨rfl, rfl⟩ := h
      simp [execOp, Instr.box, ht.val hv, newVar, newRow, cells_arr, fval]
    · cases h
  case buildSlice t' len parts =>
    split at h
    · rename_i e ps hu hps
      split at h
      · rename_i n z hn hz
        split at h
        · rename_i cells h1 h2 h3
          simp only [Option.some.injEq, Prod.mk.injEq] at h
          obtain ⟨rfl, rfl⟩ := h
          have h1 := of_decide_eq_true h1
          have h2 := of_decide_eq_true h2
          have e1 : (parts.map fun (i, x) => (i, a.eval x)).toList = ps := by
            have := ht.partVals hps
            rw [← this]; simp
          have e2 : ((Array.range (len * n)).map fun i => (cellsL z).toArray[i % n]!) = ((List.replicate len (cellsL z)).flatten).toArray := by
            apply Array.ext'
            rw [← flatten_range (cellsL z) n h2 len]
            simp
          have e3 := fill_eq (fun i => some (i * n, n)) ps ((List.replicate len (cellsL z)).flatten).toArray cells (by simpa using h3)
          have e4 : ¬ (len * n > 2 ^ 24) := by omega
          have hsz : z.cells = (cellsL z).toArray := (cells_arr z).symm
          have hsz' : z.cells.size = n := by rw [cells_size]; exact h2
          by_cases h0 : len * n = 0
          · have e5 : ((List.replicate len (cellsL z)).flatten) = [] := by
              rw [← flatten_range (cellsL z) n h2 len, h0]; rfl
            rw [e5] at e3
            have e6 : ∀ z : Array Value, (Array.map (fun x => z[x % z.size]!) (Array.range 0)) = #[] := fun z => by apply Array.ext'; simp
            have e7 : ¬ ((0 : Nat) > 2 ^ 24) := by omega
            simp only [execOp, Instr.buildSlice, Sem.run_bind, run_und hu, Result.andThen_ok, run_size hn, h0, if_neg e7, if_true, e1, e6, e3, Sem.run_pure]
            simp [newRow, fval]
          · simp only [execOp, Instr.buildSlice, Sem.run_bind, run_und hu, Result.andThen_ok, run_size hn, e4, if_false, Sem.run_pure, h0, e1, run_zero hz]
            rw [hsz', hsz, e2, e3]
            simp [newRow, fval]
        · cases h
      · cases h
    · cases h
theorem fl_eff {lc : Bool} {K : SV → St → PHeap → Prop} {o : Oper} (hf : isFl0 cx o = true) (h : vEff cx P lc st H o K) :
    ∃ c t, fcells P st o = some (c, t) ∧ ∀ b, H b = none → K (.v (fval o b)) st (H.upd b (.cells c.toArray t (0, 0))) := by
  obtain ⟨dst, op, type, pos, after, guard⟩ := o
  unfold vEff at h
  unfold isFl0 at hf
  cases op <;> simp only at h hf <;> try (cases hf; done)
  case alloc t' =>
    split at h
    · rename_i z hz
      unfold vNew at h
      rw [if_pos hf] at h
      exact ⟨cellsL z, t', by simp [fcells, hz], h⟩
    · cases h
  case box t' x =>
    split at h
    · rename_i v hv
      obtain ⟨h, _⟩ := okThen_get h hv
      unfold vNew at h
      rw [if_pos hf] at h
      exact ⟨cellsL v, t', by simp [fcells, hv], h⟩
    · cases h
  case buildSlice t' len parts =>
    split at h
    · rename_i e ps hu hps
      split at h
      · rename_i n z hn hz
        split at h
        · rename_i cells h1 h2 h3
          exact ⟨cells, e, by simp only [fcells, hu, hps, hn, hz, h1, h2, h3], h⟩
        · cases h
      · cases h
    · cases h
theorem FRun.det {o : Oper} {b c : Obj} (h : FRun P a o b) (h' : FRun P a o c) (w : World) : b = c := by
  have h1 := h w
  rw [h' w] at h1
  have h2 : (w.alloc c).heap[w.heap.size]? = (w.alloc b).heap[w.heap.size]? := by
    injection h1 with _ h1
    rw [h1]
  rw [heap_alloc_new, heap_alloc_new] at h2
  injection h2 with h2
  exact h2.symm
theorem J.float (h : J pd H0 w0 β st H a w) {d : Tmp} (hu : ∀ sv, st.tm[d]? = some sv → sv = .unk) (c : Array Value) (e : TypeId) (v : Value) :
    J ((w.heap.size, .cells c e (0, 0)) :: pd) H0 w0 β st H (a.put (some d) v) (w.alloc (.cells c e (0, 0))) := by
  refine ⟨⟨by rw [put_size]; exact h.tm.size, fun t sv hs => ?_⟩, fun i b hb => ?_, h.dom, h.inj, h.nloc, h.old, ⟨h.nx.os, h.nx.tape, h.nx.output, by simpa using Nat.le_succ_of_le h.nx.size, fun k hk hn => ?_, h.nx.fresh, fun k o hk => ?_⟩,
    ⟨fun q hq => ?_, by rw [put_defers]; exact h.dfr.2⟩, fun p hp => ?_⟩
  · by_cases e : t = d
    · subst e
      rw [hu sv hs]; trivial
    · rw [put_other (by simpa using fun e' => e e'.symm)]
      exact h.tm.at_ t sv hs
  · obtain ⟨g, hg, hh⟩ := h.bx i b hb
    exact ⟨g, hg, by rw [heap_alloc _ _ (h.ltw hg)]; exact hh⟩
  · rw [heap_alloc _ _ (Nat.lt_of_lt_of_le hk h.nx.size)]; exact h.nx.keep k hk hn
  · rw [heap_alloc _ _ (h.sees.lt (by rw [hk]; simp))]; exact h.sees k o hk
  · rw [put_defers] at hq
    exact (h.dfr.1 q hq).keep fun D h1 h2 => ⟨heap_alloc _ _ (Array.getElem?_eq_some_iff.1 h1).1, h2⟩
  · rcases List.mem_cons.1 hp with rfl | hp
    · refine ⟨heap_alloc_new _, ?_, h.nx.size, fun i hi => ?_, c, e, rfl⟩
      · cases hh : H w.heap.size with
        | none => rfl
        | some o => have := h.sees.lt (k := w.heap.size) (by rw [hh]; simp); omega
      · exact absurd (h.ltw hi) (Nat.lt_irrefl _)
    · have g := h.pnd p hp
      exact ⟨by rw [heap_alloc _ _ g.lt]; exact g.at_, g.unk, g.old, g.box, g.cells⟩
theorem J.take {pd' : List (Nat × Obj)} (h : J pd H0 w0 β st H a w) {k : Nat} {o : Obj} (hp : (k, o) ∈ pd) (hs : ∀ q ∈ pd', q ∈ pd ∧ q.1 ≠ k) {d : Tmp} {v : Value} (hv : ∀ x, a.tmps[d]? = some x → x = v) :
    J pd' H0 w0 β (st.put (some d) (.v v)) (H.upd k o) a w := by
  have g := h.pnd _ hp
  obtain ⟨gat, gunk, gold, gbox, c, e, gc⟩ := g
  simp only at gat gunk gold gbox gc
  subst gc
  refine ⟨⟨by simpa [St.put] using h.tm.size, fun t sv hsv => ?_⟩, by rw [put_bx]; exact h.bx, by rw [put_bx]; exact h.dom, h.inj, fun i g hi => ?_, h.old, ⟨h.nx.os, h.nx.tape, h.nx.output, h.nx.size, h.nx.keep, fun q hq => ?_, fun q o' hq => ?_⟩,
    ⟨fun q hq => (h.dfr.1 q hq).keep fun D h1 h2 => ⟨rfl, ?_⟩, h.dfr.2⟩, fun p hp' => ?_⟩
  · simp only [St.put, List.getElem?_set] at hsv
    by_cases e : d = t
    · subst e
      rw [if_pos rfl] at hsv
      split at hsv
      · rename_i hlt
        obtain rfl := Option.some.inj hsv
        have hlt' : d < a.tmps.size := by rw [h.tm.size]; exact hlt
        have := hv _ (Array.getElem?_eq_getElem hlt')
        show a.tmps.getD d undef = v
        rw [Array.getD_eq_getD_getElem?, Array.getElem?_eq_getElem hlt']
        exact this
      · cases hsv
    · rw [if_neg e] at hsv
      exact h.tm.at_ t sv hsv
  · have : g ≠ k := fun e => gbox i (by rw [hi, e])
    simp only [PHeap.upd, if_neg this]
    exact h.nloc i g hi
  · by_cases e : q = k
    · right; rw [e]; exact gold
    · exact h.nx.fresh q (by simpa [PHeap.upd, e] using hq)
  · by_cases e : q = k
    · subst e
      simp only [PHeap.upd, if_true] at hq
      rw [← hq]; exact gat
    · exact h.sees q o' (by simpa [PHeap.upd, e] using hq)
  · have : D ≠ k := fun e => by rw [e, gat] at h1; cases h1
    simp only [PHeap.upd, if_neg this]; exact h2
  · obtain ⟨h1, h2⟩ := hs p hp'
    have g := h.pnd p h1
    exact ⟨g.at_, by simp only [PHeap.upd, if_neg h2]; exact g.unk, g.old, g.box, g.cells⟩

/-! ### What is still to come -/
structure Rel (ops : Array Oper) (y : Array Bool) (u : List Nat) : Prop where
  size : y.size = ops.size
  at_ : ∀ j, j < ops.size → y.getD j true = !u.contains j
theorem Rel.lt {y : Array Bool} {u : List Nat} (h : Rel ops y u) {j : Nat} (hj : y.getD j true = false) : j < ops.size := by
  rcases Nat.lt_or_ge j ops.size with hl | hl
  · exact hl
  · rw [Array.getD_eq_getD_getElem?, Array.getElem?_eq_none (by rw [h.size]; exact hl)] at hj; cases hj
theorem Rel.low {y : Array Bool} {u : List Nat} (h : Rel ops y u) {j : Nat} (hj : y.getD j true = false) : j ∈ u := by
  have := h.at_ j (h.lt hj)
  rw [hj] at this
  simpa using this.symm
theorem Rel.high {y : Array Bool} {u : List Nat} (h : Rel ops y u) {j : Nat} (hj : y.getD j false = true) : j < ops.size ∧ j ∉ u := by
  have hl : j < ops.size := by
    rcases Nat.lt_or_ge j ops.size with hl | hl
    · exact hl
    · rw [Array.getD_eq_getD_getElem?, Array.getElem?_eq_none (by rw [h.size]; exact hl)] at hj; cases hj
  refine ⟨hl, fun hm => ?_⟩
  have := h.at_ j hl
  have hly : j < y.size := by rw [h.size]; exact hl
  rw [Array.getD_eq_getD_getElem?, Array.getElem?_eq_getElem hly] at this hj
  simp at this hj
  rw [hj] at this
  simp [hm] at this
theorem readyF_iff {l : List Nat} {f : Nat} : readyF ops l f = true ↔ ∃ o, ops[f]? = some o ∧ ∀ p ∈ predsOf o, p < ops.size ∧ p ∉ l := by
  unfold readyF
  split
  · rename_i o ho
    rw [List.all_eq_true]
    constructor
    · intro h
      refine ⟨o, by first | exact ho | rfl, fun p hp => ?_⟩
      simpa using h p hp
    · rintro ⟨o', h1, h2⟩ p hp
      have e : o' = o := by first | exact (Option.some.inj h1).symm | (rw [ho] at h1; exact (Option.some.inj h1).symm)
      subst e
      simpa using h2 p hp
  · rename_i ho
    exact ⟨fun h => (by cases h), fun ⟨o', h1, _⟩ => (by first | (cases h1; done) | (rw [ho] at h1; cases h1))⟩
theorem rel_ready {y : Array Bool} {u : List Nat} (h : Rel ops y u) {j : Nat} : j ∈ Region.ready .any ops y ↔ j ∈ u ∧ readyF ops u j = true := by
  rw [mem_ready, readyF_iff]
  constructor
  · rintro ⟨h1, o, ho, h2⟩
    refine ⟨h.low h1, o, ho, fun p hp => ?_⟩
    obtain ⟨e, he, hb, rfl⟩ := predsOf_mem hp
    exact h.high (h2 e he hb)
  · rintro ⟨h1, o, ho, h2⟩
    have hl := (Array.getElem?_eq_some_iff.1 ho).1
    refine ⟨by rw [h.at_ j hl]; simpa using h1, o, ho, fun e he hb => ?_⟩
    obtain ⟨g1, g2⟩ := h2 _ (mem_preds he hb)
    have := h.at_ _ g1
    have hly : e.on < y.size := by rw [h.size]; exact g1
    rw [Array.getD_eq_getD_getElem?, Array.getElem?_eq_getElem hly] at this ⊢
    simpa [g2] using this
theorem Rel.set {y : Array Bool} {u u' : List Nat} (h : Rel ops y u) {j : Nat} (hu : ∀ x, x ∈ u' ↔ x ∈ u ∧ x ≠ j) : Rel ops (y.setIfInBounds j true) u' := by
  refine ⟨by simp [h.size], fun x hx => ?_⟩
  have e : u'.contains x = (u.contains x && !(x == j)) := by
    rw [Bool.eq_iff_iff]
    simp [hu]
  by_cases hxj : j = x
  · subst hxj
    have hlt : j < y.size := by rw [h.size]; exact hx
    rw [e]
    simp [Array.getD_eq_getD_getElem?, Array.getElem?_setIfInBounds, hlt]
  · rw [getD_set_ne true hxj, h.at_ x hx, e]
    have : ¬ x = j := fun e => hxj e.symm
    simp [this]
def out (l : List Nat) (S : List Nat) : List Nat := l.filter fun j => !S.contains j
theorem mem_out {l S : List Nat} {x : Nat} : x ∈ out l S ↔ x ∈ l ∧ x ∉ S := by simp [out, List.mem_filter]
theorem out_cons {i : Nat} {is S : List Nat} (h : i ∉ S) : out (i :: is) S = i :: out is S := by
  unfold out; rw [List.filter_cons_of_pos (by simpa using h)]
theorem out_skip {i : Nat} {is S : List Nat} (h : i ∈ S) : out (i :: is) S = out is S := by
  unfold out; rw [List.filter_cons_of_neg (by simpa using h)]
theorem out_len {l S : List Nat} {j : Nat} (hd : l.Nodup) (hj : j ∈ l) (hn : j ∉ S) : (out l (j :: S)).length + 1 = (out l S).length := by
  induction l with
  | nil => cases hj
  | cons x xs ih =>
    have hd' := List.nodup_cons.1 hd
    by_cases e : x = j
    · subst e
      rw [out_skip (by simp), out_cons hn, List.length_cons]
      congr 1
      unfold out
      congr 1
      refine List.filter_congr fun y hy => ?_
      have : y ≠ x := fun e => hd'.1 (e ▸ hy)
      simp [this]
    · have hj' : j ∈ xs := by
        rcases List.mem_cons.1 hj with h | h
        · exact absurd h.symm e
        · exact h
      have := ih hd'.2 hj'
      by_cases hx : x ∈ S
      · rw [out_skip (by simp [hx]), out_skip hx]; exact this
      · rw [out_cons (by simp [e, hx]), out_cons hx, List.length_cons, List.length_cons]; omega
theorem mem_written {l : List Nat} {j : Nat} {d : Tmp} (hj : j ∈ l) (hd : dstOf ops j = some d) : d ∈ writtenAt ops l := by
  induction l with
  | nil => cases hj
  | cons x xs ih =>
    simp only [writtenAt]
    rcases List.mem_cons.1 hj with rfl | hj
    · rw [hd]; simp
    · have := ih hj
      split
      · exact List.mem_cons_of_mem _ this
      · exact this
abbrev Pd := Nat × Nat × Obj
structure FOp (cx : Cx) (P : Program) (ops : Array Oper) (f : Nat) (o : Oper) (d : Tmp) : Prop where
  at_ : ops[f]? = some o
  fl0 : isFl0 cx o = true
  eff : quietOp P o = false
  guard : o.guard = none
  dst : o.dst = some d
  self : d ∉ o.looksAt ops
  uniq : ∀ j, j ≠ f → dstOf ops j ≠ some d
  is_ : isFloat cx P ops f = true
theorem FOp.of {f : Nat} (h : isFloat cx P ops f = true) : ∃ o d, FOp cx P ops f o d := by
  have h0 := h
  unfold isFloat at h
  split at h
  · rename_i o ho
    simp only [Bool.and_eq_true, Bool.not_eq_true', List.all_eq_true, Bool.or_eq_true, beq_iff_eq, bne_iff_ne] at h
    obtain ⟨⟨⟨⟨⟨h1, h2⟩, h3⟩, h4⟩, h5⟩, _⟩ := h
    split at h4
    · rename_i d hd
      refine ⟨o, d, ho, h1, h2, by simpa using h3, hd, by simpa using h4, fun j hj he => ?_, h0⟩
      have hlt : j < ops.size := by
        unfold dstOf at he
        split at he
        · rename_i q hq; exact (Array.getElem?_eq_some_iff.1 hq).1
        · cases he
      rcases h5 j (List.mem_range.2 hlt) with e | e
      · exact hj e
      · exact e (by rw [he, hd])
    · cases h4
  · cases h
/-- The blocks that are made already, and the slots that have them. -/
structure FS (cx : Cx) (P : Program) (ops : Array Oper) (l : List Nat) (S : List Pd) (st : St) (a : Act) : Prop where
  mem : ∀ s ∈ S, s.1 ∈ floatsOf cx P ops l
  val : ∀ s ∈ S, ∀ o d, FOp cx P ops s.1 o d → (∀ v, a.tmps[d]? = some v → v = fval o s.2.1) ∧ FRun P a o s.2.2
  inj : ∀ s ∈ S, ∀ s' ∈ S, s.2.1 = s'.2.1 → s.1 = s'.1
  unk : ∀ f ∈ l, ∀ o d, FOp cx P ops f o d → ∀ sv, st.tm[d]? = some sv → sv = .unk
theorem put_getElem {d t : Tmp} {y : Value} (h : d ≠ t) : (a.put (some d) y).tmps[t]? = a.tmps[t]? := by
  simp only [Act.put]; rw [Array.getElem?_setIfInBounds_ne h]
theorem put_self {d : Tmp} {y v : Value} (h : (a.put (some d) y).tmps[d]? = some v) : v = y := by
  simp only [Act.put, Array.getElem?_setIfInBounds, if_true] at h
  split at h
  · exact (Option.some.inj h).symm
  · cases h
theorem put_getElem' {dst : Option Tmp} {t : Tmp} {y : Value} (h : dst ≠ some t) : (a.put dst y).tmps[t]? = a.tmps[t]? := by
  cases dst with
  | none => rfl
  | some d => exact put_getElem fun e => h (by rw [e])
theorem st_put' {dst : Option Tmp} {t : Tmp} {sv : SV} (h : dst ≠ some t) : (st.put dst sv).tm[t]? = st.tm[t]? := by
  cases dst with
  | none => rfl
  | some d => simp only [St.put]; rw [List.getElem?_set_ne (fun e => h (by rw [e]))]
theorem FRun.put {o : Oper} {b : Obj} {dst : Option Tmp} {y : Value} (hs : ∀ cs bb, o.op ≠ .select cs bb) (h : FRun P a o b) (hd : ∀ d, dst = some d → d ∉ o.looksAt ops) : FRun P (a.put dst y) o b := fun w => by
  rw [execOp_put (ops := ops) o hs a dst y hd]; exact h w
theorem mem_floats {l : List Nat} {f : Nat} : f ∈ floatsOf cx P ops l ↔ f ∈ l ∧ isFloat cx P ops f = true ∧ readyF ops l f = true := by
  unfold floatsOf; rw [List.mem_filter, Bool.and_eq_true]
theorem floats_tail {i f : Nat} {is : List Nat} (h : f ∈ floatsOf cx P ops (i :: is)) (hne : f ≠ i) : f ∈ floatsOf cx P ops is := by
  obtain ⟨h1, h2, h3⟩ := mem_floats.1 h
  refine mem_floats.2 ⟨(List.mem_cons.1 h1).resolve_left hne, h2, ?_⟩
  rw [readyF_iff] at h3 ⊢
  obtain ⟨o, ho, hp⟩ := h3
  exact ⟨o, ho, fun p hpp => ⟨(hp p hpp).1, fun hm => (hp p hpp).2 (List.mem_cons_of_mem _ hm)⟩⟩
structure DrOk (cx : Cx) (P : Program) (ops : Array Oper) (i : Nat) (is : List Nat) (o : Oper) : Prop where
  nd : i ∉ is
  rdy : readyF ops (i :: is) i = true
  apart : ∀ f ∈ floatsOf cx P ops (i :: is), ∀ q, ops[f]? = some q → ∀ g ∈ i :: floatsOf cx P ops (i :: is), g ≠ f → ∀ p, ops[g]? = some p → p.apart ops q = true
  quiet : quietOp P o = true → ∀ j ∈ is, ∀ oj, ops[j]? = some oj → i ∈ predsOf oj ∨ o.apart ops oj = true
  one : quietOp P o = false → ∀ j ∈ i :: is, (j ∉ floatsOf cx P ops (i :: is) ∨ j = i) → readyF ops ((i :: is).filter fun j => !(floatsOf cx P ops (i :: is)).contains j || j == i) j = true → j = i
  tail : fdrawOk cx P ops is = true
theorem DrOk.of {i : Nat} {is : List Nat} {o : Oper} (ho : ops[i]? = some o) (h : fdrawOk cx P ops (i :: is) = true) : DrOk cx P ops i is o := by
  unfold fdrawOk at h
  simp only [ho, Bool.and_eq_true, Bool.not_eq_true'] at h
  obtain ⟨⟨⟨⟨h1, h2⟩, h3⟩, h4⟩, h5⟩ := h
  refine ⟨by simpa using h1, h2, fun f hf q hq g hg hne p hp => ?_, fun hqt j hj oj hoj => ?_, fun hqt j hj hor hr => ?_, h5⟩
  · have := List.all_eq_true.1 h3 f hf
    rw [hq] at this
    have := List.all_eq_true.1 this g hg
    simp only [Bool.or_eq_true, beq_iff_eq, hp] at this
    exact this.resolve_left hne
  · rw [if_pos hqt] at h4
    have := List.all_eq_true.1 h4 j hj
    simp only [Bool.or_eq_true, beq_iff_eq, hoj] at this
    rcases this with e | e | e
    · subst e; exact absurd hj (by simpa using h1)
    · exact .inl (by simpa using e)
    · exact .inr e
  · rw [if_neg (by simp [hqt])] at h4
    have hm : j ∈ Vx.rdy ops ((i :: is).filter fun j => !(floatsOf cx P ops (i :: is)).contains j || j == i) := by
      unfold Vx.rdy
      rw [List.mem_filter, List.mem_filter]
      refine ⟨⟨hj, ?_⟩, hr⟩
      rcases hor with hn | rfl
      · simp [hn]
      · simp
    rw [beq_iff_eq.1 h4] at hm
    simpa using hm

theorem fOps_sound {β0 : Nat → Option Nat} {bx0 : List Box} {Hs : PHeap} (hns : Region.noSelect ops = true) (hQ : ∀ c a w, ¬ Q (.panic c) a w) {K : St → PHeap → Prop} :
    ∀ (m : Nat) (l : List Nat) (S : List Pd) {d : Dm} {st : St} {H : PHeap} {β : Nat → Option Nat} {a : Act} {w : World} (y : Array Bool), l.length + (out l (S.map (·.1))).length ≤ m →
      fOps cx P ops d l st H K → J (S.map (·.2)) H0 w0 β st H a w → DmIn cx P ops β0 bx0 Hs β st H w l d → FS cx P ops l S st a → Rel ops y (out l (S.map (·.1))) → Closed ops y → fdrawOk cx P ops l = true → l.Nodup →
      (∀ β' st' H' a' w', K st' H' → J [] H0 w0 β' st' H' a' w' → Ext β st.bx β' st'.bx → Kp (writtenAt ops l) a a' → Q .normal a' w') →
      wpAnyL P ops Q (DrawT cx P ops β0 bx0 Hs) (out l (S.map (·.1))).length y a w := by
  intro m
  induction m with
  | zero =>
    intro l S d st H β a w y hm h hJ hD hF hR hc hdr hnd hK
    have hl : l = [] := List.eq_nil_of_length_eq_zero (by omega)
    subst hl
    have hS : S = [] := by
      cases S with
      | nil => rfl
      | cons s ss => have := (mem_floats.1 (hF.mem s (by simp))).1; cases this
    subst hS
    refine ⟨?_, hK β st H a w (by unfold fOps at h; exact h) hJ (Ext.refl _ _) (Kp.refl _ _)⟩
    refine List.eq_nil_iff_forall_not_mem.2 fun j hj => ?_
    have := ((rel_ready hR).1 hj).1
    simp [out] at this
  | succ m ih =>
    intro l S d st H β a w y hm h hJ hD hF hR hc hdr hnd hK
    cases l with
    | nil => exact ih [] S y (by simp [out]) h hJ hD hF hR hc hdr hnd hK
    | cons i is =>
    have hnd' := List.nodup_cons.1 hnd
    unfold fOps at h
    split at h
    · cases h
    rename_i hflok
    have hflok' : ∀ f ∈ floatsOf cx P ops (i :: is), ∀ o, ops[f]? = some o → ∃ c t, fcells P st o = some (c, t) := fun f hf o ho => by
      have := List.all_eq_true.1 hflok f hf
      rw [ho] at this
      obtain ⟨⟨c, t⟩, hct⟩ := Option.isSome_iff_exists.1 this
      exact ⟨c, t, hct⟩
    split at h
    · cases h
    rename_i o ho
    have hdk := DrOk.of ho hdr
    have hsel := Region.noSelect_spec hns
    by_cases hiS : i ∈ S.map (·.1)
    · -- the block is made already: now it is told of
      obtain ⟨s, hs, hsi⟩ := List.mem_map.1 hiS
      have hfl := hF.mem s hs
      obtain ⟨_, hisf, _⟩ := mem_floats.1 hfl
      rw [hsi] at hisf
      obtain ⟨o', dd, hfo⟩ := FOp.of hisf
      have : o' = o := by have := hfo.at_; rw [ho] at this; exact (Option.some.inj this).symm
      subst this
      have hg0 : guardSlot ops o' = some (none, true) := by unfold guardSlot; rw [hfo.guard]
      rw [hg0] at h
      simp only at h
      unfold vStep at h
      simp only [hfo.eff, Bool.false_eq_true, if_false] at h
      obtain ⟨hval, hrun⟩ := hF.val s hs o' dd (by rw [hsi]; exact hfo)
      have hp : (s.2.1, s.2.2) ∈ S.map (·.2) := List.mem_map.2 ⟨s, hs, rfl⟩
      have hpn := hJ.pnd _ hp
      -- the rest
      have rest : ∀ (d' : Dm) (c : List Value) (t : TypeId), fcells P st o' = some (c, t) → fOps cx P ops d' is (st.put o'.dst (.v (fval o' s.2.1))) (H.upd s.2.1 (.cells c.toArray t (0, 0))) K → (d'.bx = d.bx ∧ ((d'.on = d.on ∧ d'.hs = d.hs ∧ (d.on = true → Sub d.hs (H.upd s.2.1 (.cells c.toArray t (0, 0))))) ∨ (d'.on = false ∧ d'.hs = (fun _ => none) ∧ dropB cx P ops (i :: is) = true))) →
          wpAnyL P ops Q (DrawT cx P ops β0 bx0 Hs) (out (i :: is) (S.map (·.1))).length y a w := by
        intro d' c t hct hk hdd
        have hobj : s.2.2 = .cells c.toArray t (0, 0) := FRun.det hrun (fcells_run hJ.tm hct) w
        rw [out_skip hiS] at hm hR ⊢
        have heq : out is (S.map (·.1)) = out is ((S.filter fun q => q.1 != i).map (·.1)) := by
          unfold out
          refine List.filter_congr fun x hx => ?_
          have hxi : x ≠ i := fun e => hnd'.1 (e ▸ hx)
          congr 1
          rw [Bool.eq_iff_iff]
          simp only [List.contains_eq_mem, decide_eq_true_eq, List.mem_map, List.mem_filter, bne_iff_ne]
          exact ⟨fun ⟨q, h1, h2⟩ => ⟨q, ⟨h1, fun e => hxi (by rw [← h2, e])⟩, h2⟩, fun ⟨q, ⟨h1, _⟩, h2⟩ => ⟨q, h1, h2⟩⟩
        rw [heq] at hm hR ⊢
        have hmS : ∀ q ∈ S.filter (fun q => q.1 != i), q ∈ S ∧ q.1 ≠ i := fun q hq => by
          have := List.mem_filter.1 hq
          exact ⟨this.1, by simpa using this.2⟩
        have hJ' := hJ.take (pd' := (S.filter fun q => q.1 != i).map (·.2)) hp (fun q hq => by
          obtain ⟨q', hq', rfl⟩ := List.mem_map.1 hq
          obtain ⟨h1, h2⟩ := hmS q' hq'
          exact ⟨List.mem_map.2 ⟨q', h1, rfl⟩, fun e => h2 (by rw [hF.inj q' h1 s hs e, hsi])⟩) hval
        rw [← hfo.dst, hobj] at hJ'
        refine ih is (S.filter fun q => q.1 != i) y (by simp only [List.length_cons] at hm; omega) hk hJ' ⟨hdd.1.trans hD.bx, fun j b hj => by rw [put_bx]; exact hD.box j b hj, hD.beta, hD.ok, ?_⟩ ⟨fun q hq => ?_, fun q hq o d hf => ?_, fun q hq q' hq' e => hF.inj q (hmS q hq).1 q' (hmS q' hq').1 e, fun f hf o d hfo' sv hsv => ?_⟩ hR hc hdk.tail hnd'.2 ?_
        · rcases hdd.2 with ⟨e1, e2, e3⟩ | ⟨e1, e2, e3⟩
          · rcases hD.hs with ⟨g1, g2, g3⟩ | ⟨g1, g2, g3⟩
            · exact .inl ⟨e1.trans g1, e2.trans g2, by rw [← g2]; exact e3 g1⟩
            · exact .inr ⟨e1.trans g1, e2.trans g2, dropB_tail g3⟩
          · exact .inr ⟨e1, e2, dropB_tail e3⟩
        · exact floats_tail (hF.mem q (hmS q hq).1) (hmS q hq).2
        · exact hF.val q (hmS q hq).1 o d hf
        · have hne : f ≠ i := fun e => hnd'.1 (e ▸ hf)
          rw [hfo.dst, st_put' (fun e => hfo'.uniq i hne.symm (by rw [dstOf_eq, ho]; show o'.dst = _; rw [hfo.dst, e]))] at hsv
          exact hF.unk f (List.mem_cons_of_mem _ hf) o d hfo' sv hsv
        · intro β' st' H' a' w' hk' hJ'' hext hkp
          rw [put_bx] at hext
          refine hK β' st' H' a' w' hk' hJ'' hext (hkp.mono fun t ht => ?_)
          simp only [writtenAt]
          split
          · exact List.mem_cons_of_mem _ ht
          · exact ht
      split at h
      · rename_i hon
        split at h
        · rename_i hdrp
          obtain ⟨c, t, hct, hk⟩ := fl_eff hfo.fl0 h
          exact rest _ c t hct (hk _ hpn.unk) ⟨rfl, .inr ⟨rfl, rfl, hdrp⟩⟩
        · obtain ⟨c, t, hct, hk⟩ := fl_eff hfo.fl0 h
          obtain ⟨h1, h2⟩ := hk _ hpn.unk
          exact rest _ c t hct h2 ⟨rfl, .inl ⟨rfl, rfl, fun _ => h1⟩⟩
      · rename_i hon
        obtain ⟨c, t, hct, hk⟩ := fl_eff hfo.fl0 h
        exact rest _ c t hct (hk _ hpn.unk) ⟨rfl, .inl ⟨rfl, rfl, fun e => by rw [hon] at e; cases e⟩⟩
    · -- the operation comes up
      have hu := out_cons (is := is) hiS
      have hul : (out (i :: is) (S.map (·.1))).length = (out is (S.map (·.1))).length + 1 := by rw [hu, List.length_cons]
      have hiu : i ∈ out (i :: is) (S.map (·.1)) := by rw [hu]; simp
      have hset : ∀ x, x ∈ out is (S.map (·.1)) ↔ x ∈ out (i :: is) (S.map (·.1)) ∧ x ≠ i := fun x => by
        rw [hu, List.mem_cons]
        constructor
        · intro hx
          exact ⟨.inr hx, fun e => hnd'.1 (by rw [← e]; exact (mem_out.1 hx).1)⟩
        · rintro ⟨hx | hx, hne⟩
          · exact absurd hx hne
          · exact hx
      have hR' := hR.set hset
      have hri : i ∈ Region.ready .any ops y := by
        refine (rel_ready hR).2 ⟨hiu, ?_⟩
        have := hdk.rdy
        rw [readyF_iff] at this ⊢
        obtain ⟨q, hq, hp⟩ := this
        exact ⟨q, hq, fun p hpp => ⟨(hp p hpp).1, fun hm => (hp p hpp).2 (mem_out.1 hm).1⟩⟩
      have hc' := closed_set hc hri
      have hin : i ∉ floatsOf cx P ops (i :: is) ∨ isFloat cx P ops i = true := by
        by_cases e : i ∈ floatsOf cx P ops (i :: is)
        · exact .inr (mem_floats.1 e).2.1
        · exact .inl e
      have dst_ne : ∀ f, f ∈ is → ∀ q d, FOp cx P ops f q d → o.dst ≠ some d := fun f hf q d hfo e => by
        have hne : f ≠ i := fun e => hnd'.1 (e ▸ hf)
        exact hfo.uniq i hne.symm (by rw [dstOf_eq, ho]; exact e)
      -- the rest, behind this operation
      have rest : ∀ (d' : Dm) (sv : SV) (st1 st' : St) (H' : PHeap) (β' : Nat → Option Nat) (v : Value) (w' : World), (∀ f ∈ is, ∀ q d, FOp cx P ops f q d → st1.tm[d]? = st.tm[d]? ∨ ∀ sv, st1.tm[d]? = some sv → sv = .unk) → st'.tm = st1.tm → fOps cx P ops d' is (st'.put o.dst sv) H' K → sv.conc β' v → J (S.map (·.2)) H0 w0 β' st' H' a w' → Ext β st.bx β' st'.bx → DmIn cx P ops β0 bx0 Hs β' st' H' w' is d' →
          wpAnyL P ops Q (DrawT cx P ops β0 bx0 Hs) (out is (S.map (·.1))).length (y.setIfInBounds i true) (a.put o.dst v) w' := by
        intro d' sv st1 st' H' β' v w' hst1 htm hk hcv hJ' hext hD'
        refine ih is S (y.setIfInBounds i true) (by simp only [List.length_cons] at hm; omega) hk (hJ'.put o.dst hcv) ⟨hD'.bx, fun j c hj => by rw [put_bx]; exact hD'.box j c hj, hD'.beta, hD'.ok, hD'.hs⟩ ⟨fun q hq => ?_, fun q hq p d hf => ?_, hF.inj, fun f hf p d hfo sv' hsv => ?_⟩ hR' hc' hdk.tail hnd'.2 ?_
        · exact floats_tail (hF.mem q hq) fun e => hiS (List.mem_map.2 ⟨q, hq, e⟩)
        · have hqi : q.1 ≠ i := fun e => hiS (List.mem_map.2 ⟨q, hq, e⟩)
          have hqm := hF.mem q hq
          have hqis : q.1 ∈ is := (List.mem_cons.1 (mem_floats.1 hqm).1).resolve_left hqi
          obtain ⟨h1, h2⟩ := hF.val q hq p d hf
          refine ⟨fun v' hv' => h1 v' (by rw [← hv', put_getElem' (dst_ne _ hqis p d hf)]), h2.put (ops := ops) (fun cs b => hsel q.1 p cs b hf.at_) fun dd hdd => ?_⟩
          exact (Oper.apart_spec (hdk.apart q.1 hqm p hf.at_ i (by simp) (fun e => hqi e.symm) o ho)).1 dd hdd
        · rw [st_put' (dst_ne f hf p d hfo), htm] at hsv
          rcases hst1 f hf p d hfo with e | e
          · rw [e] at hsv
            exact hF.unk f (List.mem_cons_of_mem _ hf) p d hfo sv' hsv
          · exact e sv' hsv
        · intro β'' st'' H'' a'' w'' hk' hJ'' hext' hkp
          rw [put_bx] at hext'
          exact hK β'' st'' H'' a'' w'' hk' hJ'' (hext.trans hext') (hkp.step ho)
      -- an operation that only yields
      have quiet : ∀ (Sx : World → Prop) (v : Value), quietOp P o = true ∨ Region.wanted o (yielded ops a.tmps) = false → quietOp P o = true → Stays ops (DrawT cx P ops β0 bx0 Hs) i Sx → YieldsIf P ops Sx o v a → Sx w → wpAnyL P ops Q (DrawT cx P ops β0 bx0 Hs) (out is (S.map (·.1))).length (y.setIfInBounds i true) (a.put o.dst v) w →
          wpAnyL P ops Q (DrawT cx P ops β0 bx0 Hs) (out (i :: is) (S.map (·.1))).length y a w := by
        intro Sx v _ hqt hSt hy hSw hrec
        rw [hul]
        refine wpAnyL_first ho hsel hQ hSt (fun w => .inl rfl) _ y a w hc (fun j oj hoj hji hun hno => ?_) hri hy hSw hrec
        have hju := hR.low hun
        rw [hu] at hju
        have hjis := (mem_out.1 ((List.mem_cons.1 hju).resolve_left hji)).1
        rcases hdk.quiet hqt j hjis oj hoj with e | e
        · obtain ⟨ed, he, hb, heq⟩ := predsOf_mem e
          exact absurd heq (hno ed he hb)
        · exact e
      -- a block is made
      have float : ∀ j, j ∈ floatsOf cx P ops (i :: is) → j ∉ S.map (·.1) → wpOp P ops Q j (fun a' w' => DrawT cx P ops β0 bx0 Hs j w w' ∧ wpAnyL P ops Q (DrawT cx P ops β0 bx0 Hs) (out is (S.map (·.1))).length (y.setIfInBounds j true) a' w') a w := by
        intro j hj hjS
        obtain ⟨hjl, hjf, hjr⟩ := mem_floats.1 hj
        obtain ⟨oj, dj, hfo⟩ := FOp.of hjf
        obtain ⟨c, t, hct⟩ := hflok' j hj oj hfo.at_
        have hrun := fcells_run hJ.tm hct
        have hju : j ∈ out (i :: is) (S.map (·.1)) := mem_out.2 ⟨hjl, hjS⟩
        have hjrd : j ∈ Region.ready .any ops y := by
          refine (rel_ready hR).2 ⟨hju, ?_⟩
          rw [readyF_iff] at hjr ⊢
          obtain ⟨q, hq, hp⟩ := hjr
          exact ⟨q, hq, fun p hpp => ⟨(hp p hpp).1, fun hm => (hp p hpp).2 (mem_out.1 hm).1⟩⟩
        have hbx : BxOk β0 bx0 (w.alloc (.cells c.toArray t (0, 0))) := fun k b hk => by
          obtain ⟨g, hg, hh⟩ := hD.ok k b hk
          exact ⟨g, hg, by rw [heap_alloc _ _ (Array.getElem?_eq_some_iff.1 hh).1]; exact hh⟩
        have hT : DrawT cx P ops β0 bx0 Hs j w (w.alloc (.cells c.toArray t (0, 0))) := by
          refine .inr ⟨hbx, fun hkb k o' hk => ?_⟩
          rcases hD.hs with ⟨_, e, hsub⟩ | ⟨_, _, hdp⟩
          · have hk' := hJ.sees k o' (hsub.le k o' hk)
            rw [heap_alloc _ _ (Array.getElem?_eq_some_iff.1 hk').1]; exact hk'
          · exfalso
            have := List.all_eq_true.1 hdp j hjl
            rw [hfo.at_] at this
            simp [hfo.eff, hkb] at this
        unfold wpOp
        simp only [hfo.at_]
        have hwn : Region.wanted oj (yielded ops a.tmps) = true := wanted_none (w0 := true) (by unfold guardSlot; rw [hfo.guard]) _
        rw [if_pos hwn]
        refine .inl ?_
        unfold Oper.wp
        rw [hrun w]
        refine ⟨hT, ?_⟩
        rw [hfo.dst]
        have hlen := out_len (S := S.map (·.1)) hnd hjl hjS
        have e1 : (out is (S.map (·.1))).length = (out (i :: is) (((j, w.heap.size, Obj.cells c.toArray t (0, 0)) :: S).map (·.1))).length := by
          have h3 := hlen
          rw [hul] at h3
          exact (Nat.succ.inj h3).symm
        rw [e1]
        have hjst := hF.unk j hjl oj dj hfo
        refine ih (i :: is) ((j, w.heap.size, .cells c.toArray t (0, 0)) :: S) (y.setIfInBounds j true) (by
          have h2 := hm
          rw [← hlen] at h2
          exact Nat.le_of_succ_le_succ h2) ?_ (hJ.float hjst c.toArray t _) ⟨hD.bx, hD.box, hD.beta, hbx, hD.hs⟩ ⟨fun q hq => ?_, fun q hq p dd hf => ?_, fun q hq q' hq' e => ?_, hF.unk⟩ (hR.set fun x => ?_) (closed_set hc hjrd) hdr hnd fun β' st' H' a' w' hk' hJ'' hext hkp => hK β' st' H' a' w' hk' hJ'' hext (Kp.trans ⟨by rw [put_size], fun t' ht' => put_other (fun e => ht' (by injection e with e; rw [← e]; exact mem_written hjl (by rw [dstOf_eq, hfo.at_]; exact hfo.dst)))⟩ hkp)
        · unfold fOps
          rw [hflok]
          simp only [ho]
          exact h
        · rcases List.mem_cons.1 hq with rfl | hq
          · exact hj
          · exact hF.mem q hq
        · rcases List.mem_cons.1 hq with rfl | hq
          · have : p = oj := by have := hf.at_; rw [hfo.at_] at this; exact (Option.some.inj this).symm
            subst this
            have : dd = dj := by have := hf.dst; rw [hfo.dst] at this; exact (Option.some.inj this).symm
            subst this
            exact ⟨fun v hv => put_self hv, hrun.put (ops := ops) (fun cs b => hsel j _ cs b hfo.at_) fun x hx => by cases hx; exact hfo.self⟩
          · have hne : q.1 ≠ j := fun e => hjS (List.mem_map.2 ⟨q, hq, e⟩)
            obtain ⟨h1, h2⟩ := hF.val q hq p dd hf
            have hdd : dj ≠ dd := fun e => hf.uniq j (fun e => hne e.symm) (by rw [dstOf_eq, hfo.at_]; show oj.dst = _; rw [hfo.dst, e])
            refine ⟨fun v hv => h1 v (by rw [← hv, put_getElem hdd]), h2.put (ops := ops) (fun cs b => hsel q.1 p cs b hf.at_) fun x hx => ?_⟩
            exact (Oper.apart_spec (hdk.apart q.1 (hF.mem q hq) p hf.at_ j (List.mem_cons_of_mem _ hj) (fun e => hne e.symm) oj hfo.at_)).1 x (by rw [hfo.dst]; exact hx)
        · have lt : ∀ q ∈ S, q.2.1 < w.heap.size := fun q hq => (hJ.pnd q.2 (List.mem_map.2 ⟨q, hq, rfl⟩)).lt
          rcases List.mem_cons.1 hq with rfl | hq <;> rcases List.mem_cons.1 hq' with rfl | hq'
          · rfl
          · have := lt q' hq'; simp only at e; omega
          · have := lt q hq; simp only at e; omega
          · exact hF.inj q hq q' hq' e
        · rw [mem_out, mem_out]
          simp only [List.map_cons, List.mem_cons, not_or]
          exact ⟨fun ⟨h1, h2, h3⟩ => ⟨⟨h1, h3⟩, h2⟩, fun ⟨⟨h1, h3⟩, h2⟩ => ⟨h1, h2, h3⟩⟩
      -- what may come up
      have upcase : quietOp P o = false → (isFloat cx P ops i = false → wpOp P ops Q i (fun a' w' => DrawT cx P ops β0 bx0 Hs i w w' ∧ wpAnyL P ops Q (DrawT cx P ops β0 bx0 Hs) (out is (S.map (·.1))).length (y.setIfInBounds i true) a' w') a w) →
          wpAnyL P ops Q (DrawT cx P ops β0 bx0 Hs) (out (i :: is) (S.map (·.1))).length y a w := by
        intro hq hi
        rw [hul]
        refine ⟨fun e => (by rw [e] at hri; cases hri), fun j hj => ?_⟩
        obtain ⟨hju, hjr⟩ := (rel_ready hR).1 hj
        obtain ⟨hjl, hjS⟩ := mem_out.1 hju
        by_cases hjf : j ∈ floatsOf cx P ops (i :: is)
        · exact float j hjf hjS
        · have hji : j = i := by
            refine hdk.one hq j hjl (.inl hjf) ?_
            rw [readyF_iff] at hjr ⊢
            obtain ⟨q, hq', hp⟩ := hjr
            refine ⟨q, hq', fun p hpp => ⟨(hp p hpp).1, fun hm => (hp p hpp).2 ?_⟩⟩
            obtain ⟨h1, h2⟩ := List.mem_filter.1 hm
            refine mem_out.2 ⟨h1, fun hpS => ?_⟩
            obtain ⟨s, hs, rfl⟩ := List.mem_map.1 hpS
            have := hF.mem s hs
            simp only [Bool.or_eq_true, Bool.not_eq_true', beq_iff_eq] at h2
            rcases h2 with h2 | h2
            · simp [this] at h2
            · exact hiS (List.mem_map.2 ⟨s, hs, h2⟩)
          subst hji
          refine hi ?_
          cases hx : isFloat cx P ops j with
          | false => rfl
          | true => exact absurd (mem_floats.2 ⟨hjl, hx, hdk.rdy⟩) hjf
      have go : ∀ {st1 : St}, J (S.map (·.2)) H0 w0 β st1 H a w → st1.bx = st.bx → (∀ f ∈ is, ∀ q d, FOp cx P ops f q d → st1.tm[d]? = st.tm[d]? ∨ ∀ sv, st1.tm[d]? = some sv → sv = .unk) → Region.wanted o (yielded ops a.tmps) = true →
          vStep cx P (some d) (dropB cx P ops (i :: is)) st1 H o (fun dm sv st H => match dm with
            | some d => fOps cx P ops d is (st.put o.dst sv) H K
            | none => False) → wpAnyL P ops Q (DrawT cx P ops β0 bx0 Hs) (out (i :: is) (S.map (·.1))).length y a w := by
        intro st1 hJ1 hbx hst1 hwn hs
        have hD1 : DmIn cx P ops β0 bx0 Hs β st1 H w is d := ⟨hD.bx, fun j c hj => by rw [hbx]; exact hD.box j c hj, hD.beta, hD.ok, hD.hs.imp id fun h => ⟨h.1, h.2.1, dropB_tail h.2.2⟩⟩
        unfold vStep at hs
        split at hs
        · rename_i hdm; cases hdm
        rename_i d0 hdm
        obtain rfl := Option.some.inj hdm
        split at hs
        · rename_i hq
          cases hlo : lclLoad cx o with
          | true =>
            simp only [hlo] at hs
            obtain ⟨sv, v, hk, hcv, hr, hr2⟩ := vQuiet_sound hJ1.tm hs
            have fin := rest d sv st1 st1 H β v w hst1 rfl hk hcv hJ1 (by rw [hbx]; exact Ext.refl _ _) hD1
            rw [hD.bx] at hr
            exact quiet _ v (.inl hq) hq (stays_bx β0 bx0 Hs i) (.inl ⟨hwn, fun w' e => hr w' (BxOk.mono e hD.beta) (fun k o hk => by cases hk)⟩) hD.ok fin
          | false =>
          simp only [hlo] at hs
          obtain ⟨sv, v, hk, hcv, hr, hr2⟩ := vQuiet_sound hJ1.tm hs
          have fin := rest d sv st1 st1 H β v w hst1 rfl hk hcv hJ1 (by rw [hbx]; exact Ext.refl _ _) hD1
          rw [hD.bx] at hr hr2
          cases hld : isLoad P o with
          | false => exact quiet _ v (.inl hq) hq (stays_bx β0 bx0 Hs i) (.inl ⟨hwn, fun w' e => hr2 hld w' (BxOk.mono e hD.beta)⟩) hD.ok fin
          | true =>
            rcases hD.hs with ⟨_, he, hsub⟩ | ⟨_, he, _⟩
            · rw [he] at hr
              exact quiet _ v (.inl hq) hq (stays_load β0 bx0 Hs ho (by unfold isHL; rw [hld, hlo]; rfl)) (.inl ⟨hwn, fun w' e => hr w' (BxOk.mono e.1 hD.beta) e.2⟩) ⟨hD.ok, fun k o hk => hJ1.sees k o (hsub.le k o hk)⟩ fin
            · rw [he] at hr
              exact quiet _ v (.inl hq) hq (stays_bx β0 bx0 Hs i) (.inl ⟨hwn, fun w' e => hr w' (BxOk.mono e hD.beta) (fun k o hk => by cases hk)⟩) hD.ok fin
        · rename_i hq
          have hq' : quietOp P o = false := by simpa using hq
          refine upcase hq' fun hnf => ?_
          have toOp : OpOk P none false o a w (fun a' w' => DrawT cx P ops β0 bx0 Hs i w w' ∧ wpAnyL P ops Q (DrawT cx P ops β0 bx0 Hs) (out is (S.map (·.1))).length (y.setIfInBounds i true) a' w') Q → wpOp P ops Q i (fun a' w' => DrawT cx P ops β0 bx0 Hs i w w' ∧ wpAnyL P ops Q (DrawT cx P ops β0 bx0 Hs) (out is (S.map (·.1))).length (y.setIfInBounds i true) a' w') a w := fun h => by
            unfold wpOp
            simp only [ho, hwn, if_true]
            exact .inl (h.plain rfl)
          refine toOp ?_
          have after : ∀ (st' : St) (H' : PHeap) (β' : Nat → Option Nat) (w' : World), J (S.map (·.2)) H0 w0 β' st' H' a w' → Ext β st1.bx β' st'.bx → (∀ (j : Nat) (c : Box), st1.bx[j]? = some c → st'.bx[j]? = some c) →
              (∀ (j : Nat) (c : Box), bx0[j]? = some c → st'.bx[j]? = some c) ∧ (∀ j g, β0 j = some g → β' j = some g) ∧ BxOk β0 bx0 w' := by
            intro st' H' β' w' hJ' hext hlc
            have hpre : ∀ (j : Nat) (c : Box), bx0[j]? = some c → st'.bx[j]? = some c := fun j c hj => hlc j c (hD1.box j c hj)
            have hβ : ∀ j g, β0 j = some g → β' j = some g := fun j g hj => hext.beta j g (hD.beta j g hj)
            refine ⟨hpre, hβ, fun j c hj => ?_⟩
            obtain ⟨g0, hg0, _⟩ := hD.ok j c hj
            obtain ⟨g1, hg1, hh⟩ := hJ'.bx j c (hpre j c hj)
            rw [hβ j g0 hg0] at hg1
            obtain rfl := Option.some.inj hg1
            exact ⟨_, hg0, hh⟩
          split at hs
          · rename_i hon
            have hsub0 : d.hs = Hs := by
              rcases hD.hs with ⟨_, h, _⟩ | ⟨h, _⟩
              · exact h
              · rw [hon] at h; cases h
            split at hs
            · rename_i hdr'
              refine vEff_sound hJ1 hs ?_
              intro sv st' H' β' v w' hk hcv hJ' hext htm hlc
              obtain ⟨p1, p2, p3⟩ := after st' H' β' w' hJ' hext (hlc rfl)
              exact ⟨.inr ⟨p3, fun h => by rw [dropB_head ho hq' hdr'] at h; cases h⟩, rest _ sv st1 st' H' β' v w' hst1 htm hk hcv hJ' (by rw [hbx] at hext; exact hext) ⟨hD.bx, p1, p2, p3, .inr ⟨rfl, rfl, dropB_tail hdr'⟩⟩⟩
            · refine vEff_sound hJ1 hs ?_
              intro sv st' H' β' v w' hk hcv hJ' hext htm hlc
              obtain ⟨p1, p2, p3⟩ := after st' H' β' w' hJ' hext (hlc rfl)
              rw [hsub0] at hk
              exact ⟨.inr ⟨p3, fun _ k o hk' => hJ'.sees k o (hk.1.le k o hk')⟩, rest _ sv st1 st' H' β' v w' hst1 htm hk.2 hcv hJ' (by rw [hbx] at hext; exact hext) ⟨hD.bx, p1, p2, p3, .inl ⟨hon, hsub0, hk.1⟩⟩⟩
          · rename_i hon
            have hdr'' : (d.hs = fun _ => none) ∧ dropB cx P ops (i :: is) = true := by
              rcases hD.hs with ⟨h, _⟩ | ⟨_, h⟩
              · rw [hon] at h; cases h
              · exact h
            refine vEff_sound hJ1 hs ?_
            intro sv st' H' β' v w' hk hcv hJ' hext htm hlc
            obtain ⟨p1, p2, p3⟩ := after st' H' β' w' hJ' hext (hlc rfl)
            exact ⟨.inr ⟨p3, fun h => by rw [dropB_head ho hq' hdr''.2] at h; cases h⟩, rest _ sv st1 st' H' β' v w' hst1 htm hk hcv hJ' (by rw [hbx] at hext; exact hext) ⟨hD.bx, p1, p2, p3, .inr ⟨hon, hdr''.1, dropB_tail hdr''.2⟩⟩⟩
      have goSkip : ∀ {st1 : St}, J (S.map (·.2)) H0 w0 β st1 H a w → st1.bx = st.bx → (∀ f ∈ is, ∀ q d, FOp cx P ops f q d → st1.tm[d]? = st.tm[d]? ∨ ∀ sv, st1.tm[d]? = some sv → sv = .unk) → Region.wanted o (yielded ops a.tmps) = false →
          fOps cx P ops d is (st1.put o.dst (.v undef)) H K → wpAnyL P ops Q (DrawT cx P ops β0 bx0 Hs) (out (i :: is) (S.map (·.1))).length y a w := by
        intro st1 hJ1 hbx hst1 hwn hs
        have hD1 : DmIn cx P ops β0 bx0 Hs β st1 H w is d := ⟨hD.bx, fun j c hj => by rw [hbx]; exact hD.box j c hj, hD.beta, hD.ok, hD.hs.imp id fun h => ⟨h.1, h.2.1, dropB_tail h.2.2⟩⟩
        have fin := rest d (.v undef) st1 st1 H β undef w hst1 rfl hs rfl hJ1 (by rw [hbx]; exact Ext.refl _ _) hD1
        by_cases hq : quietOp P o = true
        · exact quiet (fun w' => w' = w') undef (.inl hq) hq (fun _ _ _ _ _ _ _ _ _ => rfl) (.inr ⟨hwn, rfl⟩) rfl fin
        · refine upcase (by simpa using hq) fun _ => ?_
          unfold wpOp
          simp only [ho, hwn]
          exact ⟨.inl rfl, fin⟩
      split at h
      · cases h
      · rename_i w0' hg
        exact go hJ rfl (fun _ _ _ _ _ => .inl rfl) (wanted_none hg _) h
      · rename_i t want hg
        have hget := hJ.tm.get t
        have kb : ∀ (b c : Bool), st.get t = .v (.bool b) → ∀ f ∈ is, ∀ q d, FOp cx P ops f q d → (st.kbAt (.tmp t) c).tm[d]? = st.tm[d]? ∨ ∀ sv, (st.kbAt (.tmp t) c).tm[d]? = some sv → sv = .unk := by
          intro b c hb f hf q d hfo
          left
          have hne : t ≠ d := fun e => by
            subst e
            unfold St.get at hb
            rw [List.getD_eq_getElem?_getD] at hb
            cases hx : st.tm[t]? with
            | none => rw [hx] at hb; cases hb
            | some sv =>
              rw [hx] at hb
              simp only [Option.getD_some] at hb
              have := hF.unk f (List.mem_cons_of_mem _ hf) q t hfo sv hx
              rw [this] at hb; cases hb
          simp only [St.kbAt]
          rw [List.getElem?_set_ne hne]
        split at h
        · rename_i b hb
          rw [hb] at hget
          have hwb := wanted_bool hg hget
          split at h
          · rename_i he
            exact go hJ rfl (fun _ _ _ _ _ => .inl rfl) (by rw [hwb, he]) h
          · rename_i he
            exact goSkip hJ rfl (fun _ _ _ _ _ => .inl rfl) (by rw [hwb, he]) h
        · rename_i b hb
          have hb0 := hb
          rw [hb] at hget
          have hwb := wanted_bool hg hget
          by_cases he : b = want
          · subst he
            exact go (hJ.kbAt (x := .tmp t) hget) (kbAt_bx _ _) (kb _ _ hb0) (by rw [hwb]; simp) (h.1 rfl)
          · have hb' : b = !want := bool_not he
            have hget' : a.eval (.tmp t) = .bool (!want) := by rw [← hb']; exact hget
            exact goSkip (hJ.kbAt (x := .tmp t) hget') (kbAt_bx _ _) (kb _ _ hb0) (by rw [hwb, hb']; cases want <;> rfl) (h.2 hb')
        · rename_i vs hb
          rw [hb] at hget
          exact goSkip hJ rfl (fun _ _ _ _ _ => .inl rfl) (wanted_tuple hg hget) h
        · cases h

theorem fdraw_nodup : ∀ {l : List Nat}, fdrawOk cx P ops l = true → l.Nodup ∧ ∀ j ∈ l, j < ops.size
  | [], _ => ⟨List.nodup_nil, fun _ h => (by cases h)⟩
  | i :: is, h => by
    cases ho : ops[i]? with
    | none => unfold fdrawOk at h; simp [ho] at h
    | some o =>
      have hd := DrOk.of ho h
      obtain ⟨h1, h2⟩ := fdraw_nodup hd.tail
      exact ⟨List.nodup_cons.2 ⟨hd.nd, h1⟩, fun j hj => by
        rcases List.mem_cons.1 hj with rfl | hj
        · exact (Array.getElem?_eq_some_iff.1 ho).1
        · exact h2 j hj⟩
theorem fRegion_sound {Hs : PHeap} {K : St → PHeap → Prop} {l : List Nat} (hns : Region.noSelect ops = true) (hQ : ∀ c a w, ¬ Q (.panic c) a w) (hdr : fdrawOk cx P ops l = true) (hall : ((List.range ops.size).all fun j => l.contains j) = true)
    (hv : fOps cx P ops ⟨Hs, st.bx, true⟩ l { st with tm := forget (flDsts cx P ops) 0 st.tm } H K) (hJ : J [] H0 w0 β st H a w) (hsub : Sub Hs H)
    (hK : ∀ β' st' H' a' w', K st' H' → J [] H0 w0 β' st' H' a' w' → Ext β st.bx β' st'.bx → Kp (writtenAt ops l) a a' → Q .normal a' w') :
    wpAnyL P ops Q (DrawT cx P ops β st.bx Hs) ops.size (Array.replicate ops.size false) a w := by
  obtain ⟨hnd, hlt⟩ := fdraw_nodup hdr
  have hin : ∀ j, j < ops.size → j ∈ l := fun j hj => by
    have := List.all_eq_true.1 hall j (List.mem_range.2 hj)
    simpa using this
  have hout : out l (([] : List Pd).map (·.1)) = l := by unfold out; exact List.filter_eq_self.2 fun x _ => by simp
  have hlen : l.length = ops.size := by
    have hp : l.Perm (List.range ops.size) := (List.perm_ext_iff_of_nodup hnd List.nodup_range).2 fun x => ⟨fun h => List.mem_range.2 (hlt x h), fun h => hin x (List.mem_range.1 h)⟩
    rw [hp.length_eq, List.length_range]
  have := fOps_sound (cx := cx) (H0 := H0) (w0 := w0) (β0 := β) (bx0 := st.bx) (Hs := Hs) hns hQ (l.length + (out l (([] : List Pd).map (·.1))).length) l [] (β := β) (a := a) (w := w) (Array.replicate ops.size false) (Nat.le_refl _) hv
    ⟨⟨by rw [hJ.tm.size]; simp [forget_len], fun t sv hsv => ?_⟩, hJ.bx, hJ.dom, hJ.inj, hJ.nloc, hJ.old, hJ.nx, hJ.dfr, fun _ h => (by cases h)⟩
    ⟨rfl, fun _ _ h => h, fun _ _ h => h, hJ.bx, .inl ⟨rfl, rfl, hsub⟩⟩ ⟨fun _ h => (by cases h), fun _ h => (by cases h), fun _ h => (by cases h), fun f hf o d hfo sv hsv => ?_⟩ ⟨by simp, fun j hj => ?_⟩ closed_empty hdr hnd hK
  · rw [hout, hlen] at this; exact this
  · rw [forget_get] at hsv
    cases hx : st.tm[t]? with
    | none => rw [hx] at hsv; cases hsv
    | some x =>
      rw [hx] at hsv
      simp only [Option.map_some, Option.some.injEq] at hsv
      split at hsv
      · subst hsv; trivial
      · subst hsv; exact hJ.tm.at_ t _ hx
  · have hm : (flDsts cx P ops).contains d = true := by
      unfold flDsts
      rw [List.contains_iff_mem, List.mem_filterMap]
      refine ⟨f, List.mem_range.2 (hlt f hf), ?_⟩
      rw [if_pos hfo.is_, dstOf_eq, hfo.at_]
      exact hfo.dst
    rw [forget_get] at hsv
    cases hx : st.tm[d]? with
    | none => rw [hx] at hsv; cases hsv
    | some x =>
      rw [hx] at hsv
      simp only [Option.map_some, Option.some.injEq] at hsv
      rw [if_pos (by simpa using hm)] at hsv
      exact hsv.symm
  · rw [hout]
    have : j < (Array.replicate ops.size false).size := by simpa using hj
    rw [Array.getD_eq_getD_getElem?, Array.getElem?_eq_getElem this]
    simp [hin j hj]
end
end Go.Vx

/- The executor is right: what it asks of a function is enough for every call of it. -/
namespace Go.Vx
section
variable {P : Program} {cx : Cx} {H0 : PHeap} {w0 : World}

theorem mem_app_l {α : Type} {t : α} {x y : List α} (h : t ∈ x) : t ∈ x ++ y := List.mem_append.2 (.inl h)
theorem mem_app_r {α : Type} {t : α} {x y : List α} (h : t ∈ y) : t ∈ x ++ y := List.mem_append.2 (.inr h)
theorem J.drew {β : Nat → Option Nat} {st : St} {H : PHeap} {a : Act} {w : World} (h : J [] H0 w0 β st H a w) : J [] H0 w0 β st H a { w with drawn := w.drawn + 1 } := h.step (Nx.drew h.sees)
theorem pCode_len : ∀ (c : Code) {st st' : St}, pCode P c st = some st' → st'.tm.length = st.tm.length ∧ st'.bx = st.bx
  | .skip, st, st', h => by simp [pCode] at h; rw [h]; exact ⟨rfl, rfl⟩
  | .region _ ops false, st, st', h => by
    simp only [pCode] at h
    exact ⟨pOps_len _ h, pOps_bx _ h⟩
  | .region _ ops true, st, st', h => by simp [pCode] at h
  | .seq a b, st, st', h => by
    simp only [pCode] at h
    split at h
    · rename_i s1 h1
      obtain ⟨x1, x2⟩ := pCode_len a h1
      obtain ⟨y1, y2⟩ := pCode_len b h
      exact ⟨y1.trans x1, y2.trans x2⟩
    · cases h
  | .cond c a b, st, st', h => by
    simp only [pCode] at h
    split at h
    · exact pCode_len a h
    · exact pCode_len b h
    · split at h
      · obtain rfl := Option.some.inj h; exact ⟨by simp [mergeTm_len], rfl⟩
      · cases h
    · cases h
  | .block _ _, st, st', h => by simp [pCode] at h
  | .loop _, st, st', h => by simp [pCode] at h
  | .rangeFunc _ _ _ _, st, st', h => by simp [pCode] at h
  | .exit _, st, st', h => by simp [pCode] at h
  | .scope _, st, st', h => by simp [pCode] at h
  | .label _, st, st', h => by simp [pCode] at h
  | .goto _, st, st', h => by simp [pCode] at h
  | .ret, st, st', h => by simp [pCode] at h
  | .refuse _, st, st', h => by simp [pCode] at h
theorem pCode_sound {r : Option Nat} : ∀ (c : Code) {st st' : St} {β : Nat → Option Nat} {H : PHeap} {a : Act} {w : World} {Q : Exit → Act → World → Prop}, pCode P c st = some st' → J [] H0 w0 β st H a w →
    (∀ a', J [] H0 w0 β st' H a' w → Kp (writtenC c) a a' → Q .normal a' w) → c.wpIn (RF r) 0 P Q a w
  | .skip, st, st', β, H, a, w, Q, h, hJ, hQ => by
    simp [pCode] at h
    subst h
    exact wpIn_skip (hQ a hJ (Kp.refl _ _))
  | .region _ ops false, st, st', β, H, a, w, Q, h, hJ, hQ => by
    simp only [pCode] at h
    refine wpIn_region (pOps_sound (S := fun w' => w' = w) textRuns (fun _ => trivial) (fun w' e => by subst e; exact hJ.bx) rfl (List.range ops.size) () h hJ.tm fun a' ha' => ?_)
    have hb := pOps_bx _ h
    refine hQ a' ⟨ha'.tm, by rw [hb]; exact hJ.bx, by rw [hb]; exact hJ.dom, hJ.inj, hJ.nloc, hJ.old, hJ.nx, by rw [ha'.dfr]; exact hJ.dfr, hJ.pnd⟩ ⟨by rw [ha'.tm.size, pOps_len _ h, hJ.tm.size], fun t ht => ha'.keep t fun hm => ht (writtenAt_range ops _ t hm)⟩
  | .region _ ops true, st, st', β, H, a, w, Q, h, hJ, hQ => by simp [pCode] at h
  | .seq c d, st, st', β, H, a, w, Q, h, hJ, hQ => by
    simp only [pCode] at h
    split at h
    · rename_i s1 h1
      refine wpIn_seq (pCode_sound c h1 hJ fun a' hJ' hk => ?_)
      exact pCode_sound d h hJ' fun a'' hJ'' hk' => hQ a'' hJ'' ((hk.mono fun _ => mem_app_l).trans (hk'.mono fun _ => mem_app_r))
    · cases h
  | .cond x c d, st, st', β, H, a, w, Q, h, hJ, hQ => by
    simp only [pCode] at h
    have hx := hJ.tm.ev x
    split at h
    · rename_i he
      rw [he] at hx
      exact wpIn_cond_true hx (pCode_sound c h hJ fun a' hJ' hk => hQ a' hJ' (hk.mono fun _ => mem_app_l))
    · rename_i he
      rw [he] at hx
      exact wpIn_cond_false hx (pCode_sound d h hJ fun a' hJ' hk => hQ a' hJ' (hk.mono fun _ => mem_app_r))
    · rename_i t he
      rw [he] at hx
      split at h
      · rename_i s1 s2 h1 h2
        obtain rfl := Option.some.inj h
        have l1 := pCode_len c h1
        have l2 := pCode_len d h2
        rw [kbAt_len, kbAt_bx] at l1 l2
        cases t
        · refine wpIn_cond_false hx (pCode_sound d h2 (hJ.kbAt hx) fun a' hJ' hk => ?_)
          have hk' := hk.mono (W' := writtenC c ++ writtenC d) fun _ => mem_app_r
          refine hQ a' ⟨hJ.tm.merge (c := false) l1.1 l2.1 hk'.at_ hJ'.tm, ?_, ?_, hJ'.inj, hJ'.nloc, hJ'.old, hJ'.nx, hJ'.dfr, hJ'.pnd⟩ hk'
          · have := hJ'.bx; rw [l2.2] at this; exact this
          · have := hJ'.dom; rw [l2.2] at this; exact this
        · refine wpIn_cond_true hx (pCode_sound c h1 (hJ.kbAt hx) fun a' hJ' hk => ?_)
          have hk' := hk.mono (W' := writtenC c ++ writtenC d) fun _ => mem_app_l
          refine hQ a' ⟨hJ.tm.merge (c := true) l1.1 l2.1 hk'.at_ hJ'.tm, ?_, ?_, hJ'.inj, hJ'.nloc, hJ'.old, hJ'.nx, hJ'.dfr, hJ'.pnd⟩ hk'
          · have := hJ'.bx; rw [l1.2] at this; exact this
          · have := hJ'.dom; rw [l1.2] at this; exact this
      · cases h
    · cases h
  | .block _ _, st, st', _, _, _, _, _, h, _, _ => by simp [pCode] at h
  | .loop _, st, st', _, _, _, _, _, h, _, _ => by simp [pCode] at h
  | .rangeFunc _ _ _ _, st, st', _, _, _, _, _, h, _, _ => by simp [pCode] at h
  | .exit _, st, st', _, _, _, _, _, h, _, _ => by simp [pCode] at h
  | .scope _, st, st', _, _, _, _, _, h, _, _ => by simp [pCode] at h
  | .label _, st, st', _, _, _, _, _, h, _, _ => by simp [pCode] at h
  | .goto _, st, st', _, _, _, _, _, h, _, _ => by simp [pCode] at h
  | .ret, st, st', _, _, _, _, _, h, _, _ => by simp [pCode] at h
  | .refuse _, st, st', _, _, _, _, _, h, _, _ => by simp [pCode] at h

theorem carried_get {zs : List Value} {st : St} {ts : List Tmp} {bs : List Nat} {n : Nat} {R : List Value → Prop} (h : carried zs st ts bs n R) : ∃ l, genVals st ts bs = some l ∧ fitVs zs l = true ∧ R l := by
  unfold carried at h
  split at h
  · rename_i l hl
    split at h
    · rename_i hc; exact ⟨l, hl, hc.1, h⟩
    · cases h
  · cases h
/-- What a piece of code hands on, at each of its ends. -/
def HandsC (H0 : PHeap) (w0 : World) (β : Nat → Option Nat) (bx : List Box) (W : List Tmp) (a : Act) (K : St → PHeap → Prop) (F : Act → World → Prop) : Prop :=
  ∀ β' st' H' a' w', K st' H' → J [] H0 w0 β' st' H' a' w' → Ext β bx β' st'.bx → Kp W a a' → F a' w'

theorem Ext.of_like {β : Nat → Option Nat} {st : St} {bs : List Nat} {bx' : List Box} (hl : BxLike st bs bx') (hz : ∀ (i : Nat) (c d : Box), st.bx[i]? = some c → bx'[i]? = some d → d.fz = c.fz) (hf : ∀ i c, i ∈ bs → st.bx[i]? = some c → c.fz = false) : Ext β st.bx β bx' := by
  refine ⟨fun _ _ h => h, fun i c hc => ?_⟩
  obtain ⟨d, hd, e1, e2, e3⟩ := hl i c hc
  exact ⟨d, hd, e1, hz i c d hc hd, e2, fun h => e3 fun hm => by rw [hf i c hm hc] at h; cases h⟩
theorem genVals_fz {st : St} {ts : List Tmp} {bs : List Nat} {l : List Value} (h : genVals st ts bs = some l) : ∀ i c, i ∈ bs → st.bx[i]? = some c → c.fz = false := by
  obtain ⟨la, lb, _, _, hb⟩ := genVals_split h
  exact boxVals_fz bs hb
/-- What the executor's soundness says of a piece of code, in a round's frame. -/
def SoundAt (cx : Cx) (P : Program) (c : Code) : Prop :=
  ∀ {H0 : PHeap} {w0 : World} {l : Nat} {st : St} {H : PHeap} {Kn : St → PHeap → Prop} {Kx : Nat → St → PHeap → Prop} {Kr : St → PHeap → Prop} {Q : Exit → Act → World → Prop} {β : Nat → Option Nat} {a : Act} {w : World},
    vCode cx P c st H Kn Kx Kr → plainC c = true → J [] H0 w0 β st H a w → (∀ ch a w, ¬ Q (.panic ch) a w) → (∀ a w, ¬ Q .outgrown a w) →
    HandsC H0 w0 β st.bx (writtenC c) a Kn (Q .normal) → (∀ j, HandsC H0 w0 β st.bx (writtenC c) a (Kx j) (Q (.exit j))) → HandsC H0 w0 β st.bx (writtenC c) a Kr (Q .ret) → c.wpIn (RF (some l)) 0 P Q a w
theorem bindPs_bx : ∀ (ts : List Tmp) (vs : List Value) (fs : List Bool) (st : St), (bindPs st fs ts vs).bx = st.bx
  | [], _, _, st => by unfold bindPs; rfl
  | t :: ts, [], _, st => by unfold bindPs; rfl
  | t :: ts, v :: vs, [], st => by unfold bindPs; exact bindPs_bx ts vs [] _
  | t :: ts, v :: vs, true :: fs, st => by unfold bindPs; exact bindPs_bx ts vs fs _
  | t :: ts, v :: vs, false :: fs, st => by unfold bindPs; exact bindPs_bx ts vs fs _
theorem bindPs_ok {β : Nat → Option Nat} : ∀ (ts : List Tmp) (vs : List Value) (fs : List Bool) {st : St} {a : Act}, TmOk β st a → vs.length = ts.length →
    TmOk β (bindPs st fs ts vs) { a with tmps := (ts.zip vs).foldl (fun tmps (t, v) => tmps.setIfInBounds t v) a.tmps }
  | [], _, _, st, a, h, _ => by unfold bindPs; simpa using h
  | t :: ts, [], _, st, a, h, hl => by simp at hl
  | t :: ts, v :: vs, [], st, a, h, hl => by
    unfold bindPs
    exact bindPs_ok ts vs [] (a := a.put (some t) v) (h.put (some t) (sv := .v v) rfl) (by simpa using hl)
  | t :: ts, v :: vs, true :: fs, st, a, h, hl => by
    unfold bindPs
    exact bindPs_ok ts vs fs (a := a.put (some t) v) (h.put (some t) (sv := .fv v) rfl) (by simpa using hl)
  | t :: ts, v :: vs, false :: fs, st, a, h, hl => by
    unfold bindPs
    exact bindPs_ok ts vs fs (a := a.put (some t) v) (h.put (some t) (sv := .v v) rfl) (by simpa using hl)
theorem fitVs_len : ∀ {zs l : List Value}, fitVs zs l = true → l.length = zs.length
  | [], [], _ => rfl
  | [], _ :: _, h => by simp [fitVs] at h
  | _ :: _, [], h => by simp [fitVs] at h
  | z :: zs, v :: vs, h => by simp only [fitVs, Bool.and_eq_true] at h; simp [fitVs_len h.2]
theorem zerosOf_len : ∀ {ts : List TypeId} {zs : List Value}, zerosOf P ts = some zs → zs.length = ts.length
  | [], zs, h => by simp [zerosOf] at h; subst h; rfl
  | t :: ts, zs, h => by
    simp only [zerosOf] at h
    split at h
    · rename_i z zs' h1 h2; obtain rfl := Option.some.inj h; simp [zerosOf_len h2]
    · cases h
theorem updL_nx {H H' : PHeap} {w w' : World} {l : Nat} {b o o' : Obj} (hn : Nx H H' (w.putObj l b) w') (hl : l < w.heap.size) (h0 : H l = none) : Nx (H.upd l o) (H'.upd l o') w (w'.putObj l o') := by
  have hsz : w.heap.size ≤ w'.heap.size := by simpa using hn.size
  refine ⟨hn.os, hn.tape, hn.output, by simpa using hsz, fun k hk hk0 => ?_, fun k hk => ?_, fun k o2 hk => ?_⟩
  · have hne : k ≠ l := fun e => by subst e; simp [PHeap.upd] at hk0
    rw [World.putObj_heap_other hne, hn.keep k (by simpa using hk) (by simpa [PHeap.upd, hne] using hk0), World.putObj_heap_other hne]
  · by_cases e : k = l
    · left; simp [PHeap.upd, e]
    · rcases hn.fresh k (by simpa [PHeap.upd, e] using hk) with h | h
      · left; simpa [PHeap.upd, e] using h
      · right; simpa using h
  · by_cases e : k = l
    · subst e
      simp [PHeap.upd] at hk
      subst hk
      exact World.putObj_heap_same (Nat.lt_of_lt_of_le hl hsz)
    · rw [World.putObj_heap_other e]
      exact hn.sees k o2 (by simpa [PHeap.upd, e] using hk)
/-- A block of which nothing is known turns alike ahead and behind. -/
theorem J.swap {u u1 : PHeap} {w' w1 : World} {β : Nat → Option Nat} {st : St} {a : Act} {l : Nat} {q : Loop} (h : J [] u w' β st u1 a w1) (hl : l < w'.heap.size) (h0 : u l = none) (hq : w1.heap[l]? = some (.loop q)) (b : Obj) :
    J [] u (w'.putObj l b) β st u1 a (w1.putObj l b) := by
  have h1 := h.nx.nloc hl h0
  refine ⟨h.tm, fun i c hc => ?_, h.dom, h.inj, h.nloc, fun i g hg => by simpa using h.old i g hg, ⟨h.nx.os, h.nx.tape, h.nx.output, by simpa using h.nx.size, fun k hk hk0 => ?_, fun k hk => by simpa using h.nx.fresh k hk, fun k o hk => ?_⟩, ⟨fun d hd => ?_, h.dfr.2⟩, fun _ h => (by cases h)⟩
  · obtain ⟨g, hg, hh⟩ := h.bx i c hc
    exact ⟨g, hg, by rw [World.putObj_heap_other (fun e => by rw [e, hq] at hh; cases hh)]; exact hh⟩
  · by_cases e : k = l
    · subst e
      rw [World.putObj_heap_same hl, World.putObj_heap_same (Nat.lt_of_lt_of_le hl h.nx.size)]
    · rw [World.putObj_heap_other e, World.putObj_heap_other e]
      exact h.nx.keep k (by simpa using hk) hk0
  · rw [World.putObj_heap_other (fun e => by rw [e, h1] at hk; cases hk)]
    exact h.sees k o hk
  · obtain ⟨D, e1, e2, e3, e4⟩ := (h.dfr.1 d hd).out
    exact ⟨D, e1, by rw [World.putObj_heap_other (fun e => by rw [e, hq] at e2; cases e2)]; exact e2, e3, by simpa using e4⟩
/-- A block that stays as it is may be known besides. -/
theorem Nx.addk {A B : PHeap} {w w' : World} {D : Nat} {o : Obj} (h : Nx A B w w') (hA : A D = none) (hD : w.heap[D]? = some o) : Nx (A.upd D o) (B.upd D o) w w' := by
  have hlt := (Array.getElem?_eq_some_iff.1 hD).1
  refine ⟨h.os, h.tape, h.output, h.size, fun k hk h0 => h.keep k hk (by unfold PHeap.upd at h0; split at h0 <;> simp_all), fun k hk => ?_, fun k o' hk => ?_⟩
  · by_cases e : k = D
    · left; simp [PHeap.upd, e]
    · rcases h.fresh k (by simpa [PHeap.upd, e] using hk) with h | h
      · left; simpa [PHeap.upd, e] using h
      · right; exact h
  · by_cases e : k = D
    · subst e; simp [PHeap.upd] at hk; subst hk; rw [h.keep k hlt hA]; exact hD
    · exact h.sees k o' (by simpa [PHeap.upd, e] using hk)
theorem Nx.dropk {A B : PHeap} {w w' : World} {D : Nat} {o : Obj} (h : Nx (A.upd D o) (B.upd D o) w w') (hA : A D = none) (hB : B D = none) (hD : w.heap[D]? = some o) : Nx A B w w' := by
  refine ⟨h.os, h.tape, h.output, h.size, fun k hk h0 => ?_, fun k hk => ?_, fun k o' hk => h.sees k o' ?_⟩
  · by_cases e : k = D
    · subst e; rw [hD]; exact h.sees k o (by simp [PHeap.upd])
    · exact h.keep k hk (by simpa [PHeap.upd, e] using h0)
  · have e : k ≠ D := fun e => hk (by rw [e]; exact hB)
    simpa [PHeap.upd, e] using h.fresh k (by simpa [PHeap.upd, e] using hk)
  · have e : k ≠ D := fun e => by rw [e, hB] at hk; cases hk
    simpa [PHeap.upd, e] using hk
theorem sees_upd {H : PHeap} {w : World} {l : Nat} {o : Obj} (hs : Sees (H.upd l o) w) (h0 : H l = none) : Sees H w := fun k o' hk => hs k o' (by
  have : k ≠ l := fun e => by rw [e, h0] at hk; cases hk
  simpa [PHeap.upd, this] using hk)
theorem sees_at {H : PHeap} {w : World} {l : Nat} {o : Obj} (hs : Sees (H.upd l o) w) : w.heap[l]? = some o := hs l o (by simp [PHeap.upd])
theorem eachOf_get {K : Nat → Prop} : ∀ {l : List Nat}, eachOf K l → ∀ j ∈ l, K j
  | [], _, j, hj => by simp at hj
  | [i], h, j, hj => by simp at hj; subst hj; exact h
  | i :: k :: l, h, j, hj => by
    rcases List.mem_cons.1 hj with rfl | hj
    · exact h.1
    · exact eachOf_get h.2 j hj
theorem rangeFunc_sound {g : Operand} {ps : Array Tmp} {assign body : Code} {st : St} {H : PHeap} {Kn : St → PHeap → Prop} {Kx : Nat → St → PHeap → Prop} {Kr : St → PHeap → Prop} {Q : Exit → Act → World → Prop} {β : Nat → Option Nat} {a : Act} {w : World}
    (ihA : SoundAt cx P assign) (ihB : SoundAt cx P body) (h : vCode cx P (.rangeFunc g ps assign body) st H Kn Kx Kr) (hJ : J [] H0 w0 β st H a w) {W : List Tmp}
    (hn : HandsC H0 w0 β st.bx W a Kn (Q .normal)) (hx : ∀ j, HandsC H0 w0 β st.bx W a (Kx j) (Q (.exit j))) (hr : HandsC H0 w0 β st.bx W a Kr (Q .ret)) : (Code.rangeFunc g ps assign body).wpIn (RF none) 0 P Q a w := by
  simp only [vCode] at h
  split at h
  · rename_i gv tys hg hf
    split at h
    · rename_i zs hz hbx
      split at h
      · rename_i hpl
        simp only [Bool.and_eq_true, beq_iff_eq] at hpl
        obtain ⟨⟨hpa, hpb⟩, hsz⟩ := hpl
        obtain ⟨n, E, Ji, X, Hr, hsub, hit, hfit, hJsub, hJgrow, hJ0, hround, hdone, hexit, hret⟩ := h
        have hgv : a.eval g = gv := hJ.tm.val hg
        have hβ : β = fun _ => none := funext fun i => hJ.dom i (by rw [hbx]; exact Nat.zero_le _)
        refine wpIn_rangeFunc fun fn _ => ?_
        generalize hrec : ({ state := .ready, pending := none, fn := fn, tmps := a.tmps, params := ps, assign := assign, body := body, defers := w.heap.size } : Loop) = rec0
        generalize hl0 : w.heap.size + 1 = l
        generalize hw1 : (w.alloc (.deferred (some []))).alloc (.loop rec0) = w1
        have hent : (Instr.enterLoop fn a.tmps ps assign body (RF none).round).run P w = .ok (l, [{ target := .collected w.heap.size, args := #[] }]) w1 := by
          rw [← hw1, ← hrec, ← hl0]; exact run_enterLoop_outer fn a.tmps ps assign body
        have hsz1 : w1.heap.size = w.heap.size + 2 := by rw [← hw1]; simp
        have hlt : l < w1.heap.size := by omega
        have w1l : w1.heap[l]? = some (.loop rec0) := by
          have := World.alloc_heap_new (w.alloc (.deferred (some []))) (.loop rec0)
          rw [hw1] at this
          rw [← this, ← hl0]; simp
        have w1D : w1.heap[w.heap.size]? = some (.deferred (some [])) := by
          rw [← hw1, heap_alloc _ _ (by simp)]; exact World.alloc_heap_new w _
        have w1k : ∀ k, k < w.heap.size → w1.heap[k]? = w.heap[k]? := fun k hk => by
          rw [← hw1, heap_alloc _ _ (by simp; omega), heap_alloc _ _ hk]
        have hno : ∀ k, w.heap.size ≤ k → H k = none := fun k hk => by
          cases hh : H k with
          | none => rfl
          | some o => have := hJ.sees.lt (k := k) (by rw [hh]; simp); omega
        have hHl : H l = none := hno l (by omega)
        have hDl : w.heap.size ≠ l := by omega
        have hs0 : Sees (H.upd l (.loop rec0)) w1 := by
          intro k o hk
          by_cases e : k = l
          · subst e; simp [PHeap.upd] at hk; subst hk; exact w1l
          · have hk' : H k = some o := by simpa [PHeap.upd, e] using hk
            rw [w1k k (hJ.sees.lt (by rw [hk']; simp))]
            exact hJ.sees k o hk'
        have upD : ∀ (u : PHeap) o, u w.heap.size = none → (u.upd l o) w.heap.size = none := fun u o h => by simpa [PHeap.upd, hDl] using h
        have hs1 : Sees ((H.upd l (.loop rec0)).upd w.heap.size (.deferred (some []))) w1 := by
          intro k o hk
          by_cases e : k = w.heap.size
          · subst e; simp [PHeap.upd] at hk; subst hk; exact w1D
          · exact hs0 k o (by simpa [PHeap.upd, e] using hk)
        have hrec' := hrec.symm
        have hyield : ∀ (i : Nat) x F H', i < n → CellsOnly F → Sub F H' → E i x F → (∃ u, Ji i u ∧ u l = none ∧ u w.heap.size = none ∧ H' = (u.upd l (.loop rec0)).upd w.heap.size (.deferred (some []))) →
            CallY P (.func (.yield l) #[] #[]) x.toArray H' fun v H'' => (v = .bool true ∧ ∃ u, Ji (i + 1) u ∧ u l = none ∧ u w.heap.size = none ∧ H'' = (u.upd l (.loop rec0)).upd w.heap.size (.deferred (some []))) ∨
              (v = .bool false ∧ ∃ c u, ((∃ j, c = Code.exit j ∧ j ∈ exitsC body ∧ X (j + 1) u) ∨ (c = .ret ∧ retsC body = true ∧ X 0 u)) ∧ u l = none ∧ u w.heap.size = none ∧ H'' = (u.upd l (.loop { rec0 with state := .done, pending := some c })).upd w.heap.size (.deferred (some []))) := by
          rintro i x F _ _ hFc hF' hxi ⟨u, hu, hul, huD, rfl⟩
          have hF : Sub F u := ⟨fun k o hk => by
            have h1 := hF'.le k o hk
            obtain ⟨_, _, _, rfl⟩ := hFc.out k o hk
            by_cases e1 : k = w.heap.size
            · rw [e1] at h1; unfold PHeap.upd at h1; rw [if_pos rfl] at h1; cases h1
            by_cases e2 : k = l
            · rw [e2] at h1; unfold PHeap.upd at h1; rw [if_neg hDl.symm, if_pos rfl] at h1; cases h1
            · simpa [PHeap.upd, e1, e2] using h1⟩
          have hxl : x.length = ps.size := by rw [hsz, ← zerosOf_len hz]; exact fitVs_len (hfit.out i x F hxi)
          refine ⟨fun w' hsD => .inr ?_⟩
          have hs : Sees (u.upd l (.loop rec0)) w' := sees_upd hsD (upD u _ huD)
          refine ⟨l, fn, (ps.zip x.toArray).foldl (fun tmps (t, a) => tmps.setIfInBounds t a) a.tmps, assign, body, ?_, roundIn_of_wpIn trivial ?_⟩
          · have := run_yield (P := P) (args := x.toArray) (sees_at hs) (by rw [hrec']; simpa using hxl)
            rw [hrec'] at this
            simpa [Deferred.ofValue, invoke] using this
          · have hsu : Sees u w' := sees_upd hs hul
            have hwl := sees_at hs
            have hlw : l < w'.heap.size := (Array.getElem?_eq_some_iff.1 hwl).1
            have hv := allVs_get hround (hfit.out i x F hxi) i F u hxi hF hu
            have ht : TmOk (fun _ => none) (bindPs st (tys.map (opaqueT P)) ps.toList x) { tmps := (ps.zip x.toArray).foldl (fun tmps (t, a) => tmps.setIfInBounds t a) a.tmps, defers := [] } := by
              have h1 : TmOk (fun _ => none) st { tmps := a.tmps, defers := [] } := by
                have := hJ.tm; rw [hβ] at this; exact ⟨this.size, this.at_⟩
              have h2 := bindPs_ok ps.toList x (tys.map (opaqueT P)) h1 (by simpa using hxl)
              have e : (ps.toList.zip x).foldl (fun tmps (t, v) => tmps.setIfInBounds t v) a.tmps = (ps.zip x.toArray).foldl (fun tmps (t, a) => tmps.setIfInBounds t a) a.tmps := by
                rw [← Array.foldl_toList]; simp
              rw [← e]; exact h2
            have hJu : J [] u w' (fun _ => none) (bindPs st (tys.map (opaqueT P)) ps.toList x) u { tmps := (ps.zip x.toArray).foldl (fun tmps (t, a) => tmps.setIfInBounds t a) a.tmps, defers := [] } w' :=
              ⟨ht, by rw [bindPs_bx, hbx]; exact fun i c hc => by simp at hc, fun _ _ => rfl, fun _ _ _ h => by (cases h), fun _ _ h => by (cases h), fun _ _ h => by (cases h), Nx.refl hsu, ⟨fun d hd => by simp at hd, List.nodup_nil⟩, fun _ h => (by cases h)⟩
            refine ihA hv hpa hJu (fun _ _ _ h => h) (fun _ _ h => h) ?_ (fun j β' st' H' a' w' hk _ _ _ => hk.elim) (fun β' st' H' a' w' hk _ _ _ => hk.elim)
            intro β1 st1 u1 a1 w2 hk1 hJ1 _ _
            have hw2l : w2.heap[l]? = some (.loop rec0) := by rw [hJ1.nx.keep l hlw hul]; exact hwl
            refine ⟨_, run_beginRound hw2l (by rw [hrec']), ?_⟩
            have hJb := hJ1.swap hlw hul hw2l (.loop { rec0 with state := .busy })
            have hDw : w.heap.size < w'.heap.size := by omega
            have fin : ∀ (u2 : PHeap) (w3 : World) (jump : Option Code), Nx u u2 (w'.putObj l (.loop { rec0 with state := .busy })) w3 → ∃ w4, (Instr.endRound l jump).run P w3 = .ok (.bool jump.isNone) w4 ∧
                Nx ((u.upd l (.loop rec0)).upd w.heap.size (.deferred (some []))) ((u2.upd l (.loop { rec0 with state := if jump.isNone then .ready else .done, pending := jump })).upd w.heap.size (.deferred (some []))) w' w4 ∧ u2 l = none ∧ u2 w.heap.size = none := by
              intro u2 w3 jump hn2
              have hl3 : w3.heap[l]? = some (.loop { rec0 with state := .busy }) := by
                rw [hn2.keep l (by simpa using hlw) hul]; exact World.putObj_heap_same hlw
              exact ⟨_, run_endRound jump hl3, (updL_nx hn2 hlw hul).addk (upD u _ huD) (sees_at hsD), hn2.nloc (by simpa using hlw) hul, hn2.nloc (by simpa using hDw) huD⟩
            refine ihB hk1 hpb hJb (fun _ _ _ h => h) (fun _ _ h => h) ?_ ?_ ?_
            · intro β2 st2 u2 a2 w3 hk2 hJ2 _ _
              obtain ⟨w4, h1, h2, h3, h4⟩ := fin u2 w3 none hJ2.nx
              refine ⟨_, w4, h1, _, _, rfl, h2, .inl ⟨rfl, u2, hk2, h3, h4, ?_⟩⟩
              rw [hrec']; rfl
            · intro j β2 st2 u2 a2 w3 hk2 hJ2 _ _
              split at hk2
              · rename_i hj
                obtain ⟨w4, h1, h2, h3, h4⟩ := fin u2 w3 (some (.exit j)) hJ2.nx
                exact ⟨_, w4, h1, _, _, rfl, h2, .inr ⟨rfl, _, u2, .inl ⟨j, rfl, by simpa using hj, hk2⟩, h3, h4, rfl⟩⟩
              · cases hk2
            · intro β2 st2 u2 a2 w3 hk2 hJ2 _ _
              split at hk2
              · rename_i hj
                obtain ⟨w4, h1, h2, h3, h4⟩ := fin u2 w3 (some .ret) hJ2.nx
                exact ⟨_, w4, h1, _, _, rfl, h2, .inr ⟨rfl, _, u2, .inr ⟨rfl, hj, hk2⟩, h3, h4, rfl⟩⟩
              · cases hk2
        have hc := (hit.out (.func (.yield l) #[] #[]) (fun i H' => ∃ u, Ji i u ∧ u l = none ∧ u w.heap.size = none ∧ H' = (u.upd l (.loop rec0)).upd w.heap.size (.deferred (some []))) _ ((H.upd l (.loop rec0)).upd w.heap.size (.deferred (some []))) ⟨H, hJ0, hHl, hno _ (Nat.le_refl _), rfl⟩ (by
          rintro i _ ⟨u, hu, hul, huD, rfl⟩
          exact ⟨fun k o hk => by
            have h1 := (hJsub i u hu).le k o hk
            have : k ≠ l := fun e => by rw [e, hul] at h1; cases h1
            have h2 : k ≠ w.heap.size := fun e => by rw [e, huD] at h1; cases h1
            simpa [PHeap.upd, this, h2] using h1⟩) (by
          rintro i _ H'' ⟨u, hu, hul, huD, rfl⟩ hg
          have g1 := hg.le w.heap.size (.deferred (some [])) (by simp [PHeap.upd])
          have g2 := hg.le l (.loop rec0) (by simp [PHeap.upd, hDl.symm])
          refine ⟨fun k => if k = l ∨ k = w.heap.size then none else H'' k, hJgrow.out i u _ hu ⟨fun k o hk => ?_⟩, by simp, by simp, funext fun k => ?_⟩
          · have e1 : k ≠ l := fun e => by rw [e, hul] at hk; cases hk
            have e2 : k ≠ w.heap.size := fun e => by rw [e, huD] at hk; cases hk
            rw [if_neg (by simp [e1, e2])]
            exact hg.le k o (by simpa [PHeap.upd, e1, e2] using hk)
          · by_cases e1 : k = w.heap.size
            · simp [PHeap.upd, e1, g1]
            · by_cases e2 : k = l
              · simp [PHeap.upd, e2, g2, hDl.symm]
              · simp [PHeap.upd, e1, e2]) hyield).out w1 hs1
        obtain ⟨f, args, hrun, hcalls⟩ := hc
        simp only [Sem.run_bind] at hrun
        cases hd : (Deferred.ofValue gv #[.func (.yield l) #[] #[]]).run P w1 with
        | halt x w' => rw [hd] at hrun; simp [Result.andThen] at hrun
        | ok d w1' =>
          rw [hd] at hrun
          simp only [Result.andThen_ok] at hrun
          refine ⟨l, _, w1, d, w1', f, args, w1, hent, ?_, fun _ _ => trivial, hrun, fun e => by simp [RF] at e, callsIn_rf _ (hcalls.mono ?_)⟩
          · have e1 : (#[Operand.const (.func (.yield l) #[] #[])]).map a.eval = #[.func (.yield l) #[] #[]] := by simp [Act.eval]
            have e : resolve a.eval (rangeCall g l) 0 = Deferred.ofValue gv #[.func (.yield l) #[] #[]] := by simp only [resolve, rangeCall, hgv, e1]
            rw [e]; exact hd
          · -- behind the loop
            have back : ∀ (u : PHeap) (q : Loop) (w3 : World), u l = none → u w.heap.size = none → q.state ≠ .busy → Nx ((H.upd l (.loop rec0)).upd w.heap.size (.deferred (some []))) ((u.upd l (.loop q)).upd w.heap.size (.deferred (some []))) w1 w3 → ∃ w4, (Instr.endLoop l).run P w3 = .ok q.pending w4 ∧
                J [] H0 w0 β st u { a with defers := [{ target := .collected w.heap.size, args := #[] }] ++ a.defers } w4 := by
              intro u q w3 hul huD hqb hn3'
              have hn3 := hn3'.dropk (upD H _ (hno _ (Nat.le_refl _))) (upD u _ huD) w1D
              have h3l : w3.heap[l]? = some (.loop q) := hn3.sees l _ (by simp [PHeap.upd])
              refine ⟨_, run_endLoop h3l hqb, ?_⟩
              have hnx : Nx H u w (w3.putObj l (.loop { q with state := .exhausted })) := by
                have hs13 := hn3.size
                refine ⟨hn3.os.trans (by rw [← hw1]; rfl), hn3.tape.trans (by rw [← hw1]; rfl), hn3.output.trans (by rw [← hw1]; rfl), by simp; omega, fun k hk hk0 => ?_, fun k hk => ?_, fun k o hk => ?_⟩
                · have hne : k ≠ l := by omega
                  rw [World.putObj_heap_other hne, hn3.keep k (by omega) (by simpa [PHeap.upd, hne] using hk0), w1k k hk]
                · have hne : k ≠ l := fun e => hk (by rw [e]; exact hul)
                  rcases hn3.fresh k (by simpa [PHeap.upd, hne] using hk) with h | h
                  · left; simpa [PHeap.upd, hne] using h
                  · right; omega
                · have hne : k ≠ l := fun e => by rw [e, hul] at hk; cases hk
                  rw [World.putObj_heap_other hne]
                  exact hn3.sees k o (by simpa [PHeap.upd, hne] using hk)
              have hJ' := hJ.step hnx
              have hD4 : (w3.putObj l (.loop { q with state := .exhausted })).heap[w.heap.size]? = some (.deferred (some [])) := by
                rw [World.putObj_heap_other hDl, hn3.keep _ (by omega) (by simpa [PHeap.upd, hDl] using hno _ (Nat.le_refl _))]; exact w1D
              refine ⟨⟨hJ'.tm.size, hJ'.tm.at_⟩, hJ'.bx, hJ'.dom, hJ'.inj, hJ'.nloc, hJ'.old, hJ'.nx, ⟨fun d hd => ?_, ?_⟩, fun _ h => (by cases h)⟩
              · rcases List.mem_cons.1 hd with rfl | hd
                · exact ⟨_, rfl, hD4, huD, hJ.nx.size⟩
                · exact hJ'.dfr.1 d hd
              · refine List.nodup_cons.2 ⟨fun hm => ?_, hJ'.dfr.2⟩
                obtain ⟨D', e1, e2, _⟩ := (hJ.dfr.1 _ hm).out
                injection e1 with e1 _
                injection e1 with e1
                have := (Array.getElem?_eq_some_iff.1 e2).1
                omega
            rintro e w3 ⟨v, H', rfl, hn3, hend⟩
            rcases hend with ⟨u, hu, hul, huD, rfl⟩ | ⟨c, u, hcu, hul, huD, rfl⟩
            · obtain ⟨w4, h1, hJ4⟩ := back u rec0 w3 hul huD (by rw [hrec']; simp) hn3
              refine ⟨_, w4, h1, ?_⟩
              have e : rec0.pending = none := by rw [hrec']
              rw [e]
              exact hn β st u _ w4 (hdone u hu) hJ4 (Ext.refl _ _) ⟨rfl, fun _ _ => rfl⟩
            · obtain ⟨w4, h1, hJ4⟩ := back u _ w3 hul huD (by simp) hn3
              refine ⟨_, w4, h1, ?_⟩
              rcases hcu with ⟨j, rfl, hj, hX⟩ | ⟨rfl, hrt, hX⟩
              · exact wpIn_exit (hx j β st u _ w4 (eachOf_get hexit j hj u hX) hJ4 (Ext.refl _ _) ⟨rfl, fun _ _ => rfl⟩)
              · rw [if_pos hrt] at hret
                exact wpIn_ret (hr β st u _ w4 (hret u hX) hJ4 (Ext.refl _ _) ⟨rfl, fun _ _ => rfl⟩)
      · cases h
    · cases h
  · cases h
theorem vCode_sound : ∀ (c : Code) {H0 : PHeap} {w0 : World} {r : Option Nat} {st : St} {H : PHeap} {Kn : St → PHeap → Prop} {Kx : Nat → St → PHeap → Prop} {Kr : St → PHeap → Prop} {Q : Exit → Act → World → Prop} {β : Nat → Option Nat} {a : Act} {w : World},
    vCode cx P c st H Kn Kx Kr → (r = none ∨ plainC c = true ∧ ∀ a w, ¬ Q .outgrown a w) → J [] H0 w0 β st H a w → (∀ ch a w, ¬ Q (.panic ch) a w) →
    HandsC H0 w0 β st.bx (writtenC c) a Kn (Q .normal) → (∀ j, HandsC H0 w0 β st.bx (writtenC c) a (Kx j) (Q (.exit j))) → HandsC H0 w0 β st.bx (writtenC c) a Kr (Q .ret) → c.wpIn (RF r) 0 P Q a w
  | .skip, H0, w0, r, st, H, Kn, Kx, Kr, Q, β, a, w, h, hl, hJ, hp, hn, hx, hr => wpIn_skip (hn β st H a w h hJ (Ext.refl _ _) (Kp.refl _ _))
  | .label _, H0, w0, r, st, H, Kn, Kx, Kr, Q, β, a, w, h, hl, hJ, hp, hn, hx, hr => wpIn_label (hn β st H a w h hJ (Ext.refl _ _) (Kp.refl _ _))
  | .exit id, H0, w0, r, st, H, Kn, Kx, Kr, Q, β, a, w, h, hl, hJ, hp, hn, hx, hr => wpIn_exit (hx id β st H a w h hJ (Ext.refl _ _) (Kp.refl _ _))
  | .ret, H0, w0, r, st, H, Kn, Kx, Kr, Q, β, a, w, h, hl, hJ, hp, hn, hx, hr => wpIn_ret (hr β st H a w h hJ (Ext.refl _ _) (Kp.refl _ _))
  | .region _ ops false, H0, w0, r, st, H, Kn, Kx, Kr, Q, β, a, w, h, hl, hJ, hp, hn, hx, hr => by
    simp only [vCode] at h
    refine wpIn_region (vOps_sound (dm := none) (β0 := β) (bx0 := []) (Hs := fun _ => none) (lc := true) textRuns ⟨fun _ => ⟨fun _ _ _ => trivial, fun _ _ => trivial⟩, fun h => by cases h⟩ (List.range ops.size) () h hJ rfl fun β' st' H' a' w' hk hJ' he hkp => ?_)
    exact hn β' st' H' a' w' hk hJ' he (hkp.mono fun t ht => writtenAt_range ops _ t ht)
  | .region _ ops true, H0, w0, r, st, H, Kn, Kx, Kr, Q, β, a, w, h, hl, hJ, hp, hn, hx, hr => by
    simp only [vCode] at h
    split at h
    · rename_i hd
      simp only [Bool.and_eq_true] at hd
      obtain ⟨Hs, hsub, hv⟩ := h
      have hJd := hJ.drew
      have hlen : (canon P ops ops.size (Array.replicate ops.size false)).length = ops.size := by
        have : ∀ (f : Nat) (x : Array Bool) (l : List Nat), drawOk P ops f x l = true → l.length = f := by
          intro f
          induction f with
          | zero => intro x l h; cases l with | nil => rfl | cons i is => simp [drawOk] at h
          | succ f ih => intro x l h; cases l with
            | nil => simp [drawOk] at h
            | cons i is => simp only [drawOk, Bool.and_eq_true] at h; simp [ih _ _ h.2]
        exact this _ _ _ hd.2
      refine region_in (hl.imp id fun ⟨e, eo⟩ => ⟨by simpa [plainC] using e, eo⟩) hd.1.1 (wpAny_of_L (T := DrawT cx P ops β st.bx Hs) _ _ _ _ ?_)
      have := vOps_sound (dm := some ⟨Hs, st.bx, true⟩) (β0 := β) (bx0 := st.bx) (Hs := Hs) (lc := false) (drawRuns (Q := Q) (T := DrawT cx P ops β st.bx Hs) hd.1.2 hp fun _ _ => .inl rfl) ⟨(fun h => by cases h), fun _ => ⟨fun _ _ _ h => h, fun _ _ h => h⟩⟩ _ (Array.replicate ops.size false) hv hJd ⟨rfl, ⟨rfl, fun _ _ h => h, fun _ _ h => h, hJd.bx, .inl ⟨rfl, rfl, hsub⟩⟩⟩
        (fun β' st' H' a' w' hk hJ' he hkp => hn β' st' H' a' w' hk hJ' he (hkp.mono fun t ht => writtenAt_range ops _ t ht)) closed_empty
      rw [hlen] at this
      exact this hd.2
    · split at h
      · rename_i hd
        simp only [Bool.and_eq_true] at hd
        obtain ⟨Hs, hsub, hv⟩ := h
        refine region_in (hl.imp id fun ⟨e, eo⟩ => ⟨by simpa [plainC] using e, eo⟩) hd.1.1.1 (wpAny_of_L (T := DrawT cx P ops β st.bx Hs) _ _ _ _ ?_)
        exact fRegion_sound hd.1.1.2 hp hd.1.2 hd.2 hv hJ.drew hsub fun β' st' H' a' w' hk hJ' he hkp => hn β' st' H' a' w' hk hJ' he (hkp.mono fun t ht => writtenAt_range ops _ t ht)
      · cases h
  | .seq c d, H0, w0, r, st, H, Kn, Kx, Kr, Q, β, a, w, h, hl, hJ, hp, hn, hx, hr => by
    simp only [vCode] at h
    refine wpIn_seq (vCode_sound c h (hl.imp id fun ⟨e, eo⟩ => ⟨by simp only [plainC, Bool.and_eq_true] at e; exact e.1, fun a w => eo a w⟩) hJ (fun ch a w => hp ch a w) ?_ (fun j β' st' H' a' w' hk hJ' he hkp => hx j β' st' H' a' w' hk hJ' he (hkp.mono fun _ => mem_app_l)) (fun β' st' H' a' w' hk hJ' he hkp => hr β' st' H' a' w' hk hJ' he (hkp.mono fun _ => mem_app_l)))
    intro β' st' H' a' w' hk hJ' he hkp
    have t1 := hkp.mono (W' := writtenC c ++ writtenC d) fun _ => mem_app_l
    refine vCode_sound d hk (hl.imp id fun ⟨e, eo⟩ => ⟨by simp only [plainC, Bool.and_eq_true] at e; exact e.2, fun a w => eo a w⟩) hJ' hp ?_ ?_ ?_
    · exact fun β'' st'' H'' a'' w'' hk' hJ'' he' hkp' => hn β'' st'' H'' a'' w'' hk' hJ'' (he.trans he') (t1.trans (hkp'.mono fun _ => mem_app_r))
    · exact fun j β'' st'' H'' a'' w'' hk' hJ'' he' hkp' => hx j β'' st'' H'' a'' w'' hk' hJ'' (he.trans he') (t1.trans (hkp'.mono fun _ => mem_app_r))
    · exact fun β'' st'' H'' a'' w'' hk' hJ'' he' hkp' => hr β'' st'' H'' a'' w'' hk' hJ'' (he.trans he') (t1.trans (hkp'.mono fun _ => mem_app_r))
  | .cond x c d, H0, w0, r, st, H, Kn, Kx, Kr, Q, β, a, w, h, hl, hJ, hp, hn, hx, hr => by
    simp only [vCode] at h
    have hev := hJ.tm.ev x
    have hN : ∀ {st1 : St} {a1 : Act} {W : List Tmp} {K : St → PHeap → Prop} {F : Act → World → Prop}, a1 = a → st1.bx = st.bx → (∀ t, t ∈ W → t ∈ writtenC c ++ writtenC d) → HandsC H0 w0 β st.bx (writtenC c ++ writtenC d) a K F → HandsC H0 w0 β st1.bx W a1 K F := by
      intro st1 a1 W K F e1 e2 hW hh β' st' H' a' w' hk hJ' he hkp
      subst e1
      exact hh β' st' H' a' w' hk hJ' (by rw [← e2]; exact he) (hkp.mono hW)
    split at h
    · rename_i he
      rw [he] at hev
      exact wpIn_cond_true hev (vCode_sound c h (hl.imp id fun ⟨e, eo⟩ => ⟨by simp only [plainC, Bool.and_eq_true] at e; exact e.1, fun a w => eo a w⟩) hJ hp (hN rfl rfl (fun _ => mem_app_l) hn) (fun j => hN rfl rfl (fun _ => mem_app_l) (hx j)) (hN rfl rfl (fun _ => mem_app_l) hr))
    · rename_i he
      rw [he] at hev
      exact wpIn_cond_false hev (vCode_sound d h (hl.imp id fun ⟨e, eo⟩ => ⟨by simp only [plainC, Bool.and_eq_true] at e; exact e.2, fun a w => eo a w⟩) hJ hp (hN rfl rfl (fun _ => mem_app_r) hn) (fun j => hN rfl rfl (fun _ => mem_app_r) (hx j)) (hN rfl rfl (fun _ => mem_app_r) hr))
    · rename_i t he
      rw [he] at hev
      split at h
      · rename_i s1 s2 h1 h2
        have hpc : pCode P (.cond x c d) st = some { st with tm := mergeTm t (writtenC c ++ writtenC d) 0 st.tm s1.tm s2.tm } := by
          simp only [pCode, he, h1, h2]
        exact pCode_sound (.cond x c d) hpc hJ fun a' hJ' hk => hn β _ H a' w h hJ' (Ext.refl _ _) hk
      · cases t
        · exact wpIn_cond_false hev (vCode_sound d (h.2 rfl) (hl.imp id fun ⟨e, eo⟩ => ⟨by simp only [plainC, Bool.and_eq_true] at e; exact e.2, fun a w => eo a w⟩) (hJ.kbAt hev) hp (hN rfl (kbAt_bx _ _) (fun _ => mem_app_r) hn) (fun j => hN rfl (kbAt_bx _ _) (fun _ => mem_app_r) (hx j)) (hN rfl (kbAt_bx _ _) (fun _ => mem_app_r) hr))
        · exact wpIn_cond_true hev (vCode_sound c (h.1 rfl) (hl.imp id fun ⟨e, eo⟩ => ⟨by simp only [plainC, Bool.and_eq_true] at e; exact e.1, fun a w => eo a w⟩) (hJ.kbAt hev) hp (hN rfl (kbAt_bx _ _) (fun _ => mem_app_l) hn) (fun j => hN rfl (kbAt_bx _ _) (fun _ => mem_app_l) (hx j)) (hN rfl (kbAt_bx _ _) (fun _ => mem_app_l) hr))
    · cases h
  | .block id body, H0, w0, r, st, H, Kn, Kx, Kr, Q, β, a, w, h, hl, hJ, hp, hn, hx, hr => by
    simp only [vCode] at h
    split at h
    · refine wpIn_block (vCode_sound body h (hl.imp (fun e => e) fun e => ⟨e.1, fun a w => e.2 a w⟩) hJ (fun ch a w => hp ch a w) hn ?_ hr)
      intro j β' st' H' a' w' hk hJ' he hkp
      show Exit.inBlock id Q (.exit j) a' w'
      simp only [Exit.inBlock]
      by_cases e : j = id
      · rw [if_pos e] at hk ⊢; exact hn β' st' H' a' w' hk hJ' he hkp
      · rw [if_neg e] at hk ⊢; exact hx j β' st' H' a' w' hk hJ' he hkp
    · rename_i ts bts hf
      split at h
      · cases h
      rename_i bs hbs
      split at h
      · rename_i zs zb hz hb
        obtain ⟨R, hR, hv⟩ := h
        have meet : HandsC H0 w0 β (frozenSt bs st).bx (writtenC body) a (fun st' H' => carried (zs ++ zb) st' (ts.map (·.1)) bs st.bx.length fun l => R l H') (Q .normal) := by
          intro β' st' H' a' w' hk hJ' he hkp
          obtain ⟨l, hl, hfit, hRl⟩ := carried_get hk
          have hlike := (BxLike.refl st bs).ext (s1 := st) he
          obtain ⟨hJm, hrest⟩ := meet_J (W := writtenC body) (fvs := ts.map fun t => opaqueT P t.2) hJ hJ' he.beta hlike hkp hl
          obtain ⟨hlike', hlen, hfz⟩ := hrest
          exact hn β _ H' a' w' (allVs_get hR hfit H' hRl) hJm (Ext.of_like hlike' hfz (boxVals_fz bs hb)) hkp
        refine wpIn_block (vCode_sound body hv hl (hJ.frozen bs) (fun ch a w => hp ch a w) meet ?_ ?_)
        · intro j β' st' H' a' w' hk hJ' he hkp
          show Exit.inBlock id Q (.exit j) a' w'
          simp only [Exit.inBlock]
          by_cases e : j = id
          · rw [if_pos e] at hk ⊢; exact meet β' st' H' a' w' hk hJ' he hkp
          · rw [if_neg e] at hk ⊢
            exact hx j β' _ H' a' w' hk (hJ'.unfrozen st.bx) (Ext.unfrozen he.beta ((BxLike.refl st bs).ext (s1 := st) he) (boxVals_fz bs hb)) hkp
        · intro β' st' H' a' w' hk hJ' he hkp
          exact hr β' _ H' a' w' hk (hJ'.unfrozen st.bx) (Ext.unfrozen he.beta ((BxLike.refl st bs).ext (s1 := st) he) (boxVals_fz bs hb)) hkp
      · cases h
  | .loop body, H0, w0, r, st, H, Kn, Kx, Kr, Q, β, a, w, h, hl, hJ, hp, hn, hx, hr => by
    simp only [vCode] at h
    split at h
    · cases h
    · rename_i ts bts hf
      split at h
      · cases h
      rename_i bs hbs
      split at h
      · cases h
      · rename_i zs hzs
        obtain ⟨R, μ, hR0, hall⟩ := h
        have hfz0 := genVals_fz hzs
        obtain ⟨m1, m2, m3, m4⟩ := meet_J (W := writtenC body) (fvs := ts.map fun t => isFv (st.get t)) hJ hJ (fun _ _ h => h) (BxLike.refl st bs) (Kp.refl _ a) hzs
        refine wpIn_loop_ghost (fun n a1 w1 => ∃ l H1, fitVs zs l = true ∧ R l H1 ∧ μ l H1 = n ∧ J [] H0 w0 β (meetSt st (writtenC body) (ts.map fun t => isFv (st.get t)) ts bs l) H1 a1 w1 ∧ Kp (writtenC body) a a1 ∧
          BxLike st bs (meetSt st (writtenC body) (ts.map fun t => isFv (st.get t)) ts bs l).bx) (μ zs H) ⟨zs, H, fitVs_self zs, hR0, rfl, m1, Kp.refl _ _, m2⟩ ?_
        rintro n a1 w1 ⟨l, H1, hfit, hRl, rfl, hJ1, hk1, hlike⟩
        refine vCode_sound body (allVs_get hall hfit H1 hRl) hl (hJ1.frozen bs) (fun ch a w => hp ch a w) ?_ ?_ ?_
        · intro β' st' H' a' w' hk hJ' he hkp
          obtain ⟨l', hl', hfit', hR', hμ⟩ := carried_get hk
          obtain ⟨q1, q2, _, _⟩ := meet_J (W := writtenC body) (fvs := ts.map fun t => isFv (st.get t)) hJ hJ' he.beta (hlike.ext he) (hk1.trans hkp) hl'
          exact ⟨μ l' H', hμ.out, l', H', hfit', hR', rfl, q1, hk1.trans hkp, q2⟩
        · intro j β' st' H' a' w' hk hJ' he hkp
          exact hx j β' _ H' a' w' hk (hJ'.unfrozen st.bx) (Ext.unfrozen he.beta (hlike.ext he) hfz0) (hk1.trans hkp)
        · intro β' st' H' a' w' hk hJ' he hkp
          exact hr β' _ H' a' w' hk (hJ'.unfrozen st.bx) (Ext.unfrozen he.beta (hlike.ext he) hfz0) (hk1.trans hkp)
  | .rangeFunc g ps assign body, H0, w0, r, st, H, Kn, Kx, Kr, Q, β, a, w, h, hl, hJ, hp, hn, hx, hr => by
    obtain rfl : r = none := hl.resolve_right (by simp [plainC])
    exact rangeFunc_sound (fun h hc hJ hp ho hn hx hr => vCode_sound assign h (.inr ⟨hc, ho⟩) hJ hp hn hx hr) (fun h hc hJ hp ho hn hx hr => vCode_sound body h (.inr ⟨hc, ho⟩) hJ hp hn hx hr) h hJ hn hx hr
  | .scope c, H0, w0, r, st, H, Kn, Kx, Kr, Q, β, a, w, h, hl, hJ, hp, hn, hx, hr => by
    obtain rfl : r = none := hl.resolve_right (by simp [plainC])
    simp only [vCode] at h
    have hc : c.wpIn (RF none) 0 P (Exit.noGoto Q) a w := vCode_sound c h (.inl rfl) hJ (fun ch a w => hp ch a w) hn hx hr
    exact wpIn_wide.2 (wp_scope_straight (wpIn_wide.1 hc))
  | .goto _, _, _, _, _, _, _, _, _, _, _, _, _, h, _, _, _, _, _, _ => by simp [vCode] at h
  | .refuse _, _, _, _, _, _, _, _, _, _, _, _, _, h, _, _, _, _, _, _ => by simp [vCode] at h

/-! ### A call -/
theorem entrySVs_conc (β : Nat → Option Nat) : ∀ (ts : List TypeId) (vs : List Value) (t : Nat) (sv : SV), (entrySVs P ts vs)[t]? = some sv → ∃ v, vs[t]? = some v ∧ sv.conc β v
  | [], vs, t, sv, h => by
    have h' : (vs.map SV.v)[t]? = some sv := by cases vs <;> exact h
    rw [List.getElem?_map] at h'
    cases hv : vs[t]? with
    | none => rw [hv] at h'; cases h'
    | some v => rw [hv] at h'; simp at h'; subst h'; exact ⟨v, rfl, rfl⟩
  | _ :: _, [], t, sv, h => by cases h
  | ty :: ts, v :: vs, 0, sv, h => by
    simp only [entrySVs, List.getElem?_cons_zero, Option.some.injEq] at h
    subst h
    exact ⟨v, rfl, by split <;> rfl⟩
  | ty :: ts, v :: vs, t + 1, sv, h => by
    simp only [entrySVs, List.getElem?_cons_succ] at h
    obtain ⟨u, hu, hc⟩ := entrySVs_conc β ts vs t sv h
    exact ⟨u, by rw [List.getElem?_cons_succ]; exact hu, hc⟩
theorem entrySVs_len : ∀ (ts : List TypeId) (vs : List Value), (entrySVs P ts vs).length = vs.length
  | [], vs => by cases vs <;> simp [entrySVs]
  | _ :: _, [] => by simp [entrySVs]
  | _ :: ts, v :: vs => by simp [entrySVs, entrySVs_len ts vs]
def resOne (tmps : Array Value) : ResultVar → Sem Value
  | .tmp t => pure (tmps.getD t undef)
  | .cell ad t => do loadVar t (← asAddr (tmps.getD ad undef))
theorem results_eq (fn : Func) (tmps : Array Value) : results fn tmps = (do let vs ← fn.results.mapM (resOne tmps); pure (if h : vs.size = 1 then vs[0] else .tuple vs)) := by
  unfold results
  congr 1
theorem resK_run {β : Nat → Option Nat} {st : St} {H : PHeap} {a : Act} {w : World} (hJ : J [] H0 w0 β st H a w) : ∀ (rs : List ResultVar) {K : List Value → Prop}, resK P st H rs K →
    ∃ l, (rs.mapM (resOne a.tmps)).run P w = .ok l w ∧ K l
  | [], K, h => ⟨[], by simp, h⟩
  | .tmp t :: rs, K, h => by
    simp only [resK] at h
    split at h
    · rename_i v hv
      obtain ⟨l, hl, hk⟩ := resK_run hJ rs h
      have := val_conc hv (hJ.tm.get t)
      exact ⟨v :: l, by simp only [List.mapM_cons, Sem.run_bind, Sem.run_pure, Result.andThen_ok, resOne, this, hl], hk⟩
    · cases h
  | .cell ad t :: rs, K, h => by
    simp only [resK] at h
    split at h
    · rename_i b off he
      split at h
      · rename_i c cs hd
        split at h
        · rename_i v hv
          obtain ⟨l, hl0, hk⟩ := resK_run hJ rs h
          have hg := hJ.tm.get ad
          rw [he] at hg
          obtain ⟨g, hg, hx⟩ := hg
          obtain ⟨g', hg', hh⟩ := hJ.bx b c (drop_cons hd)
          rw [hg] at hg'
          obtain rfl := Option.some.inj hg'
          have hl := run_loadVar_cells (P := P) (w := w) hh hv
          have ha : (asAddr (a.tmps.getD ad undef)).run P w = .ok ⟨g, off, none⟩ w := by rw [hx]; rfl
          exact ⟨v :: l, by simp only [List.mapM_cons, Sem.run_bind, Sem.run_pure, Result.andThen_ok, resOne, ha, hl, hl0], hk⟩
        · cases h
      · cases h
    · rename_i oa he
      obtain ⟨ad', sv, y, hx, hld, hs, hc⟩ := vLoad_var hJ.tm h hJ.sees
      split at hs
      · rename_i v hv
        have hy := val_conc hv hc
        subst hy
        obtain ⟨l, hl0, hk⟩ := resK_run hJ rs hs
        have hx' : a.tmps.getD ad undef = .pointer (some ad') := hx
        have ha : (asAddr (a.tmps.getD ad undef)).run P w = .ok ad' w := by rw [hx']; rfl
        exact ⟨y :: l, by simp only [List.mapM_cons, Sem.run_bind, Sem.run_pure, Result.andThen_ok, resOne, ha, hld, hl0], hk⟩
      · cases hs
    · cases h
theorem vRet_sound {fn : Func} {QQ : Value → PHeap → Prop} {β : Nat → Option Nat} {st : St} {H : PHeap} {a : Act} {w : World} (hJ : J [] H0 w0 β st H a w) (h : vRet P fn QQ st H) :
    ∃ v, (results fn a.tmps).run P w = .ok v w ∧ QQ v H := by
  unfold vRet at h
  obtain ⟨l, hr, hk⟩ := resK_run hJ fn.results.toList h
  refine ⟨_, ?_, hk⟩
  have hr' : (fn.results.mapM (resOne a.tmps)).run P w = .ok l.toArray w := by
    rw [← Array.toArray_toList (xs := fn.results), List.mapM_toArray]
    simp only [Sem.run_map, hr, Result.andThen_ok]
  rw [results_eq]
  simp only [Sem.run_bind, hr', Result.andThen_ok, Sem.run_pure]
  congr 1
  rcases l with _ | ⟨v, _ | ⟨u, l⟩⟩ <;> simp [retVal]
/-- The marks are taken up, one by one. -/
theorem marks_leave {fn : Func} {tmps : Array Value} {R : Ending → World → Prop} {H : PHeap} : ∀ (ds : List Deferred) {w : World}, (∀ d ∈ ds, MarkAt H w0 w d) → ds.Nodup →
    (∀ w' : World, w'.os = w.os → w'.tape = w.tape → w'.output = w.output → w'.heap.size = w.heap.size → (∀ k, w'.heap[k]? = w.heap[k]? ∨ (w.heap[k]? = some (.deferred (some [])) ∧ H k = none ∧ w0.heap.size ≤ k)) →
      ∃ v, (results fn tmps).run P w' = .ok v w' ∧ R (.returned v) w') → LeavesInM (RF none) 0 P fn tmps R ds .returning w
  | [], w, _, _, h => h w rfl rfl rfl rfl fun _ => .inl rfl
  | d :: ds, w, hm, hd, h => by
    obtain ⟨D, rfl, h1, h2, h3⟩ := (hm d (List.mem_cons_self ..)).out
    refine ⟨by simp, .inl ⟨D, _, rfl, run_takeDeferred h1, ?_⟩⟩
    refine marks_leave ds (fun d' hd' => (hm d' (List.mem_cons_of_mem _ hd')).out.elim fun D' ⟨e1, e2, e3, e4⟩ => ⟨D', e1, ?_, e3, e4⟩) (List.nodup_cons.1 hd).2 fun w' a1 a2 a3 a4 a5 => ?_
    · rw [World.putObj_heap_other (fun e => (List.nodup_cons.1 hd).1 (by rw [← e, ← e1]; exact hd'))]; exact e2
    · refine h w' a1 a2 a3 (by simpa using a4) fun k => ?_
      by_cases e : k = D
      · exact .inr (by rw [e]; exact ⟨h1, h2, h3⟩)
      · have := a5 k
        rwa [World.putObj_heap_other e] at this
theorem Triple.of_v {f : FuncId} {args : List Value} {H : PHeap} {QQ : Value → PHeap → Prop} (h : vFunc cx P f args H QQ) : Triple P f args.toArray H QQ := by
  constructor
  intro w hs
  unfold vFunc at h
  split at h
  · rename_i fn hf
    split at h
    · rename_i c hb
      have hJ : J [] H w (fun _ => none) { tm := entrySVs P fn.params.toList args ++ List.replicate (fn.ntmps - args.length) .unk, bx := [] } H { tmps := args.toArray ++ Array.replicate (fn.ntmps - args.toArray.size) undef, defers := [] } w := by
        refine ⟨⟨by simp [entrySVs_len], fun t sv hsv => ?_⟩, (fun i c hc => by simp at hc), (fun _ _ => rfl), (fun _ _ _ h => by cases h), (fun _ _ h => by cases h), (fun _ _ h => by cases h), Nx.refl hs, ⟨fun d hd => by simp at hd, List.nodup_nil⟩, fun _ h => (by cases h)⟩
        by_cases ht : t < args.length
        · rw [List.getElem?_append_left (by rw [entrySVs_len]; exact ht)] at hsv
          obtain ⟨v, hv, hc⟩ := entrySVs_conc (fun _ => none) _ _ t sv hsv
          have : (args.toArray ++ Array.replicate (fn.ntmps - args.toArray.size) undef).getD t undef = v := by
            rw [Array.getD_eq_getD_getElem?, Array.getElem?_append_left (by simpa using ht)]
            simp [hv]
          rw [this]; exact hc
        · rw [List.getElem?_append_right (by rw [entrySVs_len]; omega), List.getElem?_replicate] at hsv
          split at hsv
          · obtain rfl := Option.some.inj hsv; trivial
          · cases hsv
      have fin : ∀ (st' : St) (H' : PHeap) (a' : Act) (w' : World) (β' : Nat → Option Nat), vRet P fn QQ st' H' → J [] H w β' st' H' a' w' → LeavesInM (RF none) 0 P fn a'.tmps (fun e w' => ∃ v H', e = .returned v ∧ Nx H H' w w' ∧ QQ v H') a'.defers .returning w' := by
        intro st' H' a' w' β' hk hJ'
        refine marks_leave a'.defers hJ'.dfr.1 hJ'.dfr.2 fun w2 a1 a2 a3 a4 a5 => ?_
        have hJ2 : J [] H w β' st' H' { tmps := a'.tmps, defers := [] } w2 := by
          refine ⟨⟨hJ'.tm.size, hJ'.tm.at_⟩, fun i c hc => ?_, hJ'.dom, hJ'.inj, hJ'.nloc, hJ'.old, ⟨a1.trans hJ'.nx.os, a2.trans hJ'.nx.tape, a3.trans hJ'.nx.output, by rw [a4]; exact hJ'.nx.size, fun k hk hk0 => ?_, hJ'.nx.fresh, fun k o hk => ?_⟩, ⟨fun d hd => by simp at hd, List.nodup_nil⟩, fun _ h => (by cases h)⟩
          · obtain ⟨g, hg, hh⟩ := hJ'.bx i c hc
            refine ⟨g, hg, ?_⟩
            rcases a5 g with e | ⟨e, _⟩
            · rw [e]; exact hh
            · rw [hh] at e; cases e
          · rcases a5 k with e | ⟨_, _, e⟩
            · rw [e]; exact hJ'.nx.keep k hk hk0
            · omega
          · rcases a5 k with e | ⟨_, e, _⟩
            · rw [e]; exact hJ'.sees k o hk
            · rw [hk] at e; cases e
        obtain ⟨v, h2, h3⟩ := vRet_sound hJ2 hk
        exact ⟨v, h2, v, H', rfl, hJ2.nx, h3⟩
      refine callsIn_wide.1 (callsIn_of_wp_marks (F := RF none) (n := 0) hf hb trivial (wpIn_mono (Q := fun e a' w' => match e with
        | .normal | .ret => LeavesInM (RF none) 0 P fn a'.tmps (fun e w' => ∃ v H', e = .returned v ∧ Nx H H' w w' ∧ QQ v H') a'.defers .returning w'
        | _ => False) (vCode_sound c h (.inl rfl) hJ (fun ch a w hq => hq) ?_ ?_ ?_) ?_) rfl)
      · intro β' st' H' a' w' hk hJ' _ _
        exact fin st' H' a' w' β' hk hJ'
      · intro j β' st' H' a' w' hk _ _ _
        exact hk.elim
      · intro β' st' H' a' w' hk hJ' _ _
        exact fin st' H' a' w' β' hk hJ'
      · intro e a' w' hq
        cases e <;> first | exact hq | exact hq.elim
    · cases h
  · cases h
theorem Triple.of_vc {f : FuncId} {args : List Value} {H : PHeap} {QQ : Value → PHeap → Prop} {X : Prop} (cx : Cx) (he : vFunc cx P f args H QQ = X) (h : X) : Triple P f args.toArray H QQ := Triple.of_v (cx := cx) (he ▸ h)
end
end Go.Vx
