/- The executor's operations without a step of memory: each yields, in the model, what the executor tells. -/
import Derived.Test.YtllbdocjgdnofaaVxB
namespace Go.Vx

structure TmOk (β : Nat → Option Nat) (st : St) (a : Act) : Prop where
  size : a.tmps.size = st.tm.length
  at_ : ∀ (t : Nat) (sv : SV), st.tm[t]? = some sv → sv.conc β (a.tmps.getD t undef)
def BxOk (β : Nat → Option Nat) (bx : List Box) (w : World) : Prop := ∀ (i : Nat) (c : Box), bx[i]? = some c → ∃ g, β i = some g ∧ w.heap[g]? = some (.cells c.cells.toArray c.ty (0, 0))

section
variable {P : Program} {β : Nat → Option Nat} {st : St} {a : Act} {w : World}

theorem sameK_eq {k k' : IntKind} (h : sameK k k' = true) : k = k' := by cases k <;> cases k' <;> simp_all [sameK]

theorem TmOk.get (h : TmOk β st a) (t : Tmp) : (st.get t).conc β (a.tmps.getD t undef) := by
  unfold St.get
  rw [List.getD_eq_getElem?_getD]
  cases e : st.tm[t]? with
  | none => trivial
  | some sv => exact h.at_ t sv e
theorem TmOk.ev (h : TmOk β st a) (x : Operand) : (st.ev x).conc β (a.eval x) := by
  cases x with
  | tmp t => exact h.get t
  | const v => cases v <;> rfl
  | global g => rfl
  | func f => rfl
theorem val_conc {sv : SV} {x y : Value} (h : sv.val? = some x) (hc : sv.conc β y) : y = x := by
  cases sv <;> simp_all [SV.val?, SV.conc]
theorem TmOk.val (h : TmOk β st a) {x : Operand} {v : Value} (hv : st.val x = some v) : a.eval x = v := val_conc hv (h.ev x)
theorem TmOk.v (h : TmOk β st a) {x : Operand} {v : Value} (hv : st.ev x = .v v) : a.eval x = v := by
  have := h.ev x; rw [hv] at this; exact this
theorem TmOk.vals (h : TmOk β st a) : ∀ {xs : List Operand} {vs : List Value}, st.vals xs = some vs → xs.map a.eval = vs
  | [], vs, e => by simp [St.vals] at e; simp [← e]
  | x :: xs, vs, e => by
    simp only [St.vals] at e
    split at e
    · rename_i v hv
      split at e
      · rename_i vs' hvs
        obtain rfl := Option.some.inj e
        simp [h.val hv, h.vals hvs]
      · cases e
    · cases e
theorem TmOk.partVals (h : TmOk β st a) : ∀ {ps : List (Nat × Operand)} {l : List (Nat × Value)}, partVals st ps = some l → ps.map (fun p => (p.1, a.eval p.2)) = l
  | [], l, e => by simp [Vx.partVals] at e; simp [← e]
  | (i, x) :: r, l, e => by
    simp only [Vx.partVals] at e
    split at e
    · rename_i v l' hv hl
      obtain rfl := Option.some.inj e
      simp [h.val hv, h.partVals hl]
    · cases e
theorem TmOk.optVal (h : TmOk β st a) {x : Option Operand} {v : Option Value} (hv : optVal st x = some v) : x.map a.eval = v := by
  cases x with
  | none => simp [Vx.optVal] at hv; simp [← hv]
  | some x =>
    simp only [Vx.optVal] at hv
    split at hv
    · rename_i u hu
      obtain rfl := Option.some.inj hv
      simp [h.val hu]
    · cases hv
theorem TmOk.put (h : TmOk β st a) (dst : Option Tmp) {sv : SV} {y : Value} (hc : sv.conc β y) : TmOk β (st.put dst sv) (a.put dst y) := by
  cases dst with
  | none => exact h
  | some d =>
    refine ⟨by simp [St.put, Act.put, h.size], fun t sv' ht => ?_⟩
    simp only [St.put, List.getElem?_set] at ht
    simp only [Act.put]
    by_cases e : d = t
    · subst e
      rw [if_pos rfl] at ht
      split at ht
      · rename_i hlt
        obtain rfl := Option.some.inj ht
        have : d < a.tmps.size := by rw [h.size]; exact hlt
        rw [Array.getD_eq_getD_getElem?, Array.getElem?_setIfInBounds_self_of_lt this]
        exact hc
      · cases ht
    · rw [if_neg e] at ht
      rw [Array.getD_eq_getD_getElem?, Array.getElem?_setIfInBounds_ne (by omega), ← Array.getD_eq_getD_getElem?]
      exact h.at_ t sv' ht
theorem TmOk.setTm (h : TmOk β st a) (t : Tmp) {sv : SV} (hc : sv.conc β (a.tmps.getD t undef)) : TmOk β { st with tm := st.tm.set t sv } a := by
  refine ⟨by simp [h.size], fun u sv' hu => ?_⟩
  simp only [List.getElem?_set] at hu
  split at hu
  · rename_i e
    subst e
    split at hu
    · obtain rfl := Option.some.inj hu; exact hc
    · cases hu
  · exact h.at_ u sv' hu
theorem TmOk.kbAt (h : TmOk β st a) {x : Operand} {b : Bool} (hx : a.eval x = .bool b) : TmOk β (st.kbAt x b) a := by
  cases x with
  | tmp t => exact h.setTm t hx
  | _ => exact h
theorem kbAt_bx (x : Operand) (b : Bool) : (st.kbAt x b).bx = st.bx := by cases x <;> rfl
theorem put_bx (d : Option Tmp) (sv : SV) : (st.put d sv).bx = st.bx := by cases d <;> rfl
theorem TmOk.bx (h : TmOk β st a) (bx : List Box) : TmOk β { st with bx := bx } a := ⟨h.size, h.at_⟩

/-! ### The model's words -/
theorem run_und {t : TypeId} {d : TypeDesc} (h : P.underlying t = some d) : (underlying t).run P w = .ok d w := run_underlying h w
theorem run_size {t : TypeId} {n : Nat} (h : sizeT P t = some n) : (sizeOf t).run P w = .ok n w := by
  unfold sizeT at h
  split at h
  · rename_i i hi
    obtain rfl := Option.some.inj h
    simp [sizeOf, typeInfo, hi]
  · cases h
theorem run_agg {t : TypeId} {b : Bool} (h : aggT P t = some b) : (isAgg t).run P w = .ok b w := by
  unfold aggT at h
  split at h
  all_goals (try cases h)
  · rename_i hu; simp [isAgg, run_und hu]
  · rename_i hu; simp [isAgg, run_und hu]
  · rename_i d h1 h2 hu
    simp only [isAgg, Sem.run_bind, run_und hu, Result.andThen_ok]
    cases d <;> simp_all
theorem run_zero {t : TypeId} {z : Value} (h : zeroOf P t = some z) : (zeroValue t).run P w = .ok z w := by
  unfold zeroOf at h
  split at h
  · rename_i i hi
    simp [zeroValue, typeInfo, hi, h]
  · cases h
theorem toArray_extract (cs : Array Value) (o n : Nat) : ((cs.toList.drop o).take n).toArray = cs.extract o (o + n) := by
  apply Array.ext'
  rw [Array.toList_extract]
  simp [List.extract_eq_take_drop]
theorem run_partOf {t : TypeId} {cs : Array Value} {o : Nat} {v : Value} (h : partOf P t cs.toList o = some v) : (part t cs o).run P w = .ok v w := by
  unfold partOf at h
  split at h
  · rename_i n ha hs
    split at h
    · rename_i hle
      obtain rfl := Option.some.inj h
      simp [part, run_agg ha, run_size hs, toArray_extract]
    · cases h
  · rename_i x ha
    split at h
    · rename_i u us hd
      obtain rfl := Option.some.inj h
      have : cs[o]? = some u := by
        have := congrArg (fun l => l[0]?) hd
        simpa [List.getElem?_drop] using this
      simp [part, run_agg ha, this]
    · cases h
  · cases h
theorem cells_toList (v : Value) : v.cells.toList = cellsL v := by cases v <;> rfl
theorem cells_size (v : Value) : v.cells.size = (cellsL v).length := by rw [← cells_toList]; simp
end
end Go.Vx
