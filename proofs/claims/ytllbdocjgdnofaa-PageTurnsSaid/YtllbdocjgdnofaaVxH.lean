/- The executor's lists of operations: ways that meet again without a step of memory; a load of what is known. -/
import Derived.Test.YtllbdocjgdnofaaVxG
import Derived.Deep.LoopGhost
namespace Go.Vx
section
variable {P : Program} {β : Nat → Option Nat} {st : St} {a : Act} {w : World} {bx : List Box}

/-! ### What is known of a heap holds in a world that has it -/
theorem Sees.cell {H : PHeap} (hs : Sees H w) {ad : Addr} {v : Value} (h : hcell H ad = some v) : w.cell? ad = some v := by
  unfold hcell at h
  split at h
  · rename_i c e fz hk
    simp only [World.cell?, hs _ _ hk]
    exact h
  · cases h
theorem exLeaf_get {z : Value} {K : Value → Prop} (h : exLeaf z K) : ∃ v, K v := by
  cases z <;> simp only [exLeaf] at h
  case slice => obtain ⟨x, y, q, h⟩ := h; exact ⟨_, h⟩
  all_goals (obtain ⟨x, h⟩ := h; exact ⟨_, h⟩)
theorem exLs_get : ∀ {zs : List Value} {K : List Value → Prop}, exLs zs K → ∃ l, l.length = zs.length ∧ K l
  | [], K, h => ⟨[], rfl, h⟩
  | z :: zs, K, h => by
    obtain ⟨v, hv⟩ := exLeaf_get h
    obtain ⟨l, hl, hk⟩ := exLs_get hv
    exact ⟨v :: l, by simp [hl], hk⟩
theorem exV_get {z : Value} {K : Value → Prop} (h : exV z K) : ∃ v, K v := by
  unfold exV at h
  split at h
  · obtain ⟨l, _, hk⟩ := exLs_get h; exact ⟨_, hk⟩
  · exact exLeaf_get h
theorem exVs_get : ∀ {zs : List Value} {K : List Value → Prop}, exVs zs K → ∃ l, K l
  | [], K, h => ⟨[], h⟩
  | z :: zs, K, h => by
    obtain ⟨v, hv⟩ := exV_get h
    obtain ⟨l, hk⟩ := exVs_get hv
    exact ⟨_, hk⟩
theorem run_loadVar_reads {H : PHeap} {t : TypeId} {ad : Addr} {l : List Value} (hs : Sees H w) (hr : ∀ (i : Nat) v, l[i]? = some v → hcell H (ad.add i) = some v) :
    (aggT P t = some true → sizeT P t = some l.length → (loadVar t ad).run P w = .ok (.agg l.toArray) w) ∧
    (∀ v, aggT P t = some false → l = [v] → (loadVar t ad).run P w = .ok v w) := by
  refine ⟨fun ha hn => ?_, fun v ha hl => ?_⟩
  · have := run_loadCells_list (P := P) w ad l (fun j u hj => hs.cell (hr j u hj))
    simp [loadVar, run_agg ha, run_size hn, this]
  · subst hl
    have h0 := hs.cell (hr 0 v rfl)
    have e : ad.add 0 = ad := by simp [Addr.add]
    rw [e] at h0
    simp [loadVar, run_agg ha, h0]
theorem vLoad_sound {H : PHeap} {t : TypeId} {x : Operand} {K : SV → Prop} {o : Oper} (ho : o.op = .load t x) (ht : TmOk β st a) (h : vLoad P H st t x K) :
    ∃ sv y, K sv ∧ sv.conc β y ∧ ∀ w, Sees H w → (execOp a.eval o).run P w = .ok (.value y) w := by
  obtain ⟨dst, op, type, pos, after, guard⟩ := o
  simp only at ho
  subst ho
  unfold vLoad at h
  split at h
  · rename_i oa he
    have hx := ht.v he
    split at h
    · rename_i z n ha hz hn
      split at h
      · rename_i hzn
        obtain ⟨l, hl, ⟨⟨ad, rfl, hr⟩⟩, hk⟩ := exLs_get h
        refine ⟨_, .agg l.toArray, hk, rfl, fun w hs => ?_⟩
        have := (run_loadVar_reads (P := P) (t := t) hs hr).1 ha (by rw [hn, hl, ← hzn]; simp)
        simp [execOp, Instr.loadAt, hx, Instr.sureAddr, this]
      · cases h
    · rename_i z n ha hz
      obtain ⟨v, ⟨⟨ad, rfl, hr⟩⟩, hk⟩ := exLeaf_get h
      refine ⟨_, v, hk, svOf_conc _ _, fun w hs => ?_⟩
      have := (run_loadVar_reads (P := P) (t := t) hs hr).2 v ha rfl
      simp [execOp, Instr.loadAt, hx, Instr.sureAddr, this]
    · cases h
  · cases h
theorem vQuiet_sound {H : PHeap} {o : Oper} {K : SV → Prop} (ht : TmOk β st a) (h : vQuiet P H bx st o K) :
    ∃ sv y, K sv ∧ sv.conc β y ∧ (∀ w, BxOk β bx w → Sees H w → (execOp a.eval o).run P w = .ok (.value y) w) ∧ (isLoad o = false → ∀ w, BxOk β bx w → (execOp a.eval o).run P w = .ok (.value y) w) := by
  unfold vQuiet at h
  split at h
  · rename_i sv hp
    obtain ⟨y, hc, hr⟩ := pOp_sound ht hp (fun p hp => by cases hp)
    exact ⟨sv, y, h, hc, fun w hb _ => hr w hb, fun _ => hr⟩
  · rename_i p sv hp
    obtain ⟨y, hc, hr⟩ := pOp_sound ht hp (fun q hq => by cases hq; exact h.1.out)
    exact ⟨sv, y, h.2, hc, fun w hb _ => hr w hb, fun _ => hr⟩
  · split at h
    · rename_i t x ho
      obtain ⟨sv, y, hk, hc, hr⟩ := vLoad_sound ho ht h
      exact ⟨sv, y, hk, hc, fun w _ hs => hr w hs, fun e => by simp [isLoad, ho] at e⟩
    · rename_i t m k ok ho
      obtain ⟨dst, op, type, pos, after, guard⟩ := o
      simp only at ho
      subst ho
      split at h
      · rename_i vm vk kt e hm hk' hu
        split at h
        · rename_i z hz
          obtain ⟨v, hr, hh⟩ := h.out
          have hrun : ∀ w, Sees H w → (execOp a.eval ⟨dst, .lookup t m k ok, type, pos, after, guard⟩).run P w = .ok (.value v) w := fun w hs => by
            simp [execOp, ht.val hm, ht.val hk', hr w hs]
          obtain ⟨x, hx⟩ := exV_get hh
          split at hx
          · obtain ⟨b, rfl, hK⟩ := hx
            exact ⟨.v _, _, hK, rfl, fun w _ hs => hrun w hs, fun e => by simp [isLoad] at e⟩
          · obtain ⟨rfl, hK⟩ := hx
            exact ⟨_, _, hK, svOf_conc _ _, fun w _ hs => hrun w hs, fun e => by simp [isLoad] at e⟩
        · cases h
      · cases h
    · cases h

/-! ### Ways that meet again -/
theorem merge_true {x y : SV} {u : Value} (hx : x.conc β u) : (mergeSV true x y).conc β u := by
  unfold mergeSV
  split
  · rename_i p q hp hq
    rw [val_conc hp hx]
    split
    · rename_i r hr; have := merge_v hr; simp only [cond_true] at this; rw [this]; rfl
    · trivial
  · trivial
theorem merge_false {x y : SV} {u : Value} (hy : y.conc β u) : (mergeSV false x y).conc β u := by
  unfold mergeSV
  split
  · rename_i p q hp hq
    rw [val_conc hq hy]
    split
    · rename_i r hr; have := merge_v hr; simp only [cond_false] at this; rw [this]; rfl
    · trivial
  · trivial
theorem mergeTm_len (c : Bool) (W : List Tmp) : ∀ (k : Nat) (ts xs ys : List SV), (mergeTm c W k ts xs ys).length = ts.length
  | _, [], _, _ => by simp [mergeTm]
  | k, t :: ts, [], _ => by simp [mergeTm]
  | k, t :: ts, x :: xs, [] => by simp [mergeTm]
  | k, t :: ts, x :: xs, y :: ys => by simp [mergeTm, mergeTm_len c W (k + 1) ts xs ys]
theorem mergeTm_get (c : Bool) (W : List Tmp) : ∀ (k : Nat) (ts xs ys : List SV) (i : Nat) (sv : SV), xs.length = ts.length → ys.length = ts.length → (mergeTm c W k ts xs ys)[i]? = some sv →
    (k + i ∉ W ∧ ts[i]? = some sv) ∨ ∃ x y, xs[i]? = some x ∧ ys[i]? = some y ∧ sv = mergeSV c x y
  | _, [], xs, ys, i, sv, _, _, h => by simp [mergeTm] at h
  | k, t :: ts, [], _, i, sv, h1, _, _ => by simp at h1
  | k, t :: ts, x :: xs, [], i, sv, _, h2, _ => by simp at h2
  | k, t :: ts, x :: xs, y :: ys, 0, sv, h1, h2, h => by
    simp only [mergeTm, List.getElem?_cons_zero, Option.some.injEq] at h
    by_cases hw : W.contains k = true
    · rw [if_pos hw] at h; exact .inr ⟨x, y, rfl, rfl, h.symm⟩
    · rw [if_neg hw] at h; exact .inl ⟨by simpa using hw, by simp [h]⟩
  | k, t :: ts, x :: xs, y :: ys, i + 1, sv, h1, h2, h => by
    simp only [mergeTm, List.getElem?_cons_succ] at h
    have := mergeTm_get c W (k + 1) ts xs ys i sv (by simpa using h1) (by simpa using h2) h
    rw [show k + 1 + i = k + (i + 1) by omega] at this
    simpa using this
/-- The merged state holds where the state of the way that was gone holds, and the slots beside W are what they were. -/
theorem TmOk.merge {s1 s2 : St} {W : List Tmp} {a' : Act} {c : Bool} (ht : TmOk β st a) (h1 : s1.tm.length = st.tm.length) (h2 : s2.tm.length = st.tm.length)
    (hf : ∀ t, t ∉ W → a'.tmps.getD t undef = a.tmps.getD t undef) (h : TmOk β (cond c s1 s2) a') : TmOk β { st with tm := mergeTm c W 0 st.tm s1.tm s2.tm } a' := by
  refine ⟨?_, fun t sv hsv => ?_⟩
  · have := h.size
    rw [this]
    simp only [mergeTm_len]
    cases c <;> simp [h1, h2]
  · rcases mergeTm_get c W 0 st.tm s1.tm s2.tm t sv h1 h2 hsv with ⟨hn, hs⟩ | ⟨x, y, hx, hy, rfl⟩
    · rw [hf t (by simpa using hn)]; exact ht.at_ t sv hs
    · cases c
      · exact merge_false (h.at_ t y hy)
      · exact merge_true (h.at_ t x hx)
end
end Go.Vx
