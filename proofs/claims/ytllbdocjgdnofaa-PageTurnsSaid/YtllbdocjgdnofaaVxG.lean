/- The executor's operations without a step of memory: what each yields. -/
import Derived.Test.YtllbdocjgdnofaaVxF
namespace Go.Vx
section
variable {P : Program} {β : Nat → Option Nat} {st : St} {a : Act} {w : World} {bx : List Box}

theorem merge_leaf {c : Bool} {x y v : Value} (h : mergeLeaf c x y = some v) : v = cond c x y := by
  unfold mergeLeaf at h
  split at h
  · split at h
    · rename_i hk; obtain rfl := sameK_eq hk; obtain rfl := Option.some.inj h; cases c <;> rfl
    · cases h
  all_goals first | (obtain rfl := Option.some.inj h; cases c <;> rfl) | cases h
theorem merge_ls {c : Bool} : ∀ {xs ys vs : List Value}, mergeLs c xs ys = some vs → vs = cond c xs ys
  | [], [], vs, h => by obtain rfl := Option.some.inj h; cases c <;> rfl
  | x :: xs, y :: ys, vs, h => by
    simp only [mergeLs] at h
    split at h
    · rename_i v hv
      split at h
      · rename_i l hl
        obtain rfl := Option.some.inj h
        have h1 := merge_leaf hv
        have h2 := merge_ls hl
        subst h1 h2
        cases c <;> rfl
      · cases h
    · cases h
  | [], _ :: _, _, h => by simp [mergeLs] at h
  | _ :: _, [], _, h => by simp [mergeLs] at h
theorem merge_v {c : Bool} {x y v : Value} (h : mergeV c x y = some v) : v = cond c x y := by
  unfold mergeV at h
  split at h
  · split at h
    · rename_i l hl
      obtain rfl := Option.some.inj h
      have := merge_ls hl
      subst this
      cases c <;> simp
    · cases h
  · exact merge_leaf h
theorem merge_sv {c : Bool} {x y : SV} {u v : Value} (hx : x.conc β u) (hy : y.conc β v) : (mergeSV c x y).conc β (cond c u v) := by
  unfold mergeSV
  split
  · rename_i p q hp hq
    rw [val_conc hp hx, val_conc hq hy]
    split
    · rename_i r hr; exact (merge_v hr).symm
    · trivial
  · trivial

/-- What an operation yields, in whatever world in which the boxes lie. -/
def Ylds (P : Program) (β : Nat → Option Nat) (bx : List Box) (a : Act) (o : Oper) (sv : SV) : Prop := ∃ y, sv.conc β y ∧ ∀ w, BxOk β bx w → (execOp a.eval o).run P w = .ok (.value y) w

theorem pOp_sound {o : Oper} {r : PR} (ht : TmOk β st a) (h : pOp P bx st o = some r) (hp : ∀ p, r.ob = some p → p) : Ylds P β bx a o r.sv := by
  obtain ⟨dst, op, type, pos, after, guard⟩ := o
  unfold pOp at h
  cases op <;> simp only at h <;> try (cases h; done)
  case load t x =>
    split at h
    · rename_i b off he
      split at h
      · rename_i c cs hd
        split at h
        · rename_i v hv
          obtain rfl := Option.some.inj h
          refine ⟨v, svOf_conc _ _, fun w hb => ?_⟩
          have hx := ht.ev x
          rw [he] at hx
          obtain ⟨g, hg, hx⟩ := hx
          obtain ⟨g', hg', hh⟩ := hb b c (drop_cons hd)
          rw [hg] at hg'
          obtain rfl := Option.some.inj hg'
          have hl := run_loadVar_cells (P := P) (w := w) hh hv
          simp [execOp, hx, Instr.loadAt, Instr.sureAddr, hl]
        · cases h
      · cases h
    · cases h
  case move x => obtain rfl := Option.some.inj h; exact ⟨a.eval x, ht.ev x, fun w _ => by simp [execOp]⟩
  case assign x => obtain rfl := Option.some.inj h; exact ⟨a.eval x, ht.ev x, fun w _ => by simp [execOp]⟩
  case pick c x y =>
    have hc := ht.ev c
    split at h
    · rename_i b he
      obtain rfl := Option.some.inj h
      rw [he] at hc
      simp only [SV.conc] at hc
      cases b
      · exact ⟨a.eval y, ht.ev y, fun w _ => by simp [execOp, hc, asBool]⟩
      · exact ⟨a.eval x, ht.ev x, fun w _ => by simp [execOp, hc, asBool]⟩
    · rename_i b he
      obtain rfl := Option.some.inj h
      rw [he] at hc
      simp only [SV.conc] at hc
      refine ⟨_, merge_sv (c := b) (ht.ev x) (ht.ev y), fun w _ => ?_⟩
      cases b <;> simp [execOp, hc, asBool]
    · cases h
  case extract x i =>
    split at h
    · rename_i vs he
      have hx := ht.v he
      split at h
      · rename_i v vs' hd
        obtain rfl := Option.some.inj h
        exact ⟨v, rfl, fun w _ => by simp [execOp, hx, Instr.extract, getElem?_of_drop hd]⟩
      · cases h
    · cases h
  case field t x i =>
    split at h
    · rename_i cs fs he hu
      have hx := ht.v he
      split at h
      · rename_i f fs' hd
        split at h
        · rename_i v hv
          obtain rfl := Option.some.inj h
          exact ⟨v, svOf_conc _ _, fun w _ => by simp [execOp, hx, Instr.field, run_und hu, getElem?_of_drop hd, asAgg, run_partOf hv]⟩
        · cases h
      · cases h
    · cases h
  case fieldAddr t x i =>
    split at h
    · rename_i fs hu
      split at h
      · rename_i f fs' hd
        split at h
        · rename_i n hs
          split at h
          · rename_i b o' he
            obtain rfl := Option.some.inj h
            have hx := ht.ev x
            rw [he] at hx
            obtain ⟨g, hg, hx⟩ := hx
            refine ⟨_, ⟨g, hg, rfl⟩, fun w _ => ?_⟩
            simp [execOp, hx, Instr.fieldAt, run_und hu, getElem?_of_drop hd, Instr.sureAddr, fieldPlace, run_size hs, add_none]
          · rename_i ad he
            obtain rfl := Option.some.inj h
            have hx := ht.v he
            have hne := hp _ rfl
            obtain ⟨ad', rfl⟩ := Option.ne_none_iff_exists'.1 hne
            refine ⟨_, rfl, fun w _ => ?_⟩
            simp [execOp, hx, Instr.fieldAt, run_und hu, getElem?_of_drop hd, Instr.sureAddr, fieldPlace, run_size hs, fldA]
          · cases h
        · cases h
      · cases h
    · cases h
  case indexAddr t x i =>
    split at h
    · rename_i e ad n c k j hu he hi
      have hx := ht.v he
      have hi' := ht.v hi
      split at h
      · rename_i sz hs
        obtain rfl := Option.some.inj h
        obtain ⟨hne, h0, h1⟩ := hp _ rfl
        obtain ⟨ad', rfl⟩ := Option.ne_none_iff_exists'.1 hne
        refine ⟨_, rfl, fun w _ => ?_⟩
        simp [execOp, hx, hi', Instr.indexAt, asIntOf, run_und hu, h0, h1, run_size hs, elemA]
      · cases h
    · rename_i n e ad k j hu he hi
      have hx := ht.v he
      have hi' := ht.v hi
      split at h
      · rename_i sz hs
        obtain rfl := Option.some.inj h
        obtain ⟨hne, h0, h1⟩ := hp _ rfl
        obtain ⟨ad', rfl⟩ := Option.ne_none_iff_exists'.1 hne
        refine ⟨_, rfl, fun w _ => ?_⟩
        simp [execOp, hx, hi', Instr.indexAt, asIntOf, run_und hu, h0, h1, run_size hs, elemA, Instr.sureAddr]
      · cases h
    · cases h
  case index t x i =>
    split at h
    · rename_i s k j hu he hi
      have hx := ht.v he
      have hi' := ht.v hi
      obtain rfl := Option.some.inj h
      obtain ⟨h0, h1⟩ := hp _ rfl
      refine ⟨_, rfl, fun w _ => ?_⟩
      have hj : j.toNat < s.size := by omega
      have hj' : j.toNat < s.data.size := hj
      simp [execOp, hx, hi', Instr.index, asIntOf, run_und hu, h0, hj, byteAt, hj']
      rfl
    · cases h
  case unOp op t x =>
    split at h
    · rename_i b he
      obtain rfl := Option.some.inj h
      have hx := ht.ev x
      rw [he] at hx
      simp only [SV.conc] at hx
      exact ⟨_, rfl, fun w _ => by simp [execOp, hx, Op.unary]⟩
    · rename_i b he
      obtain rfl := Option.some.inj h
      exact ⟨_, rfl, fun w _ => by simp [execOp, ht.v he, Op.unary]⟩
    · rename_i k n he
      obtain rfl := Option.some.inj h
      exact ⟨_, rfl, fun w _ => by simp [execOp, ht.v he, Op.unary, Op.intArith]⟩
    · cases h
  case binOp op t x y yt =>
    obtain ⟨v, hv, hr⟩ := run_binO (P := P) (a := a) ht h hp
    refine ⟨v, by rw [hv]; rfl, fun w _ => ?_⟩
    have := hr w
    simp only [Sem.run_bind] at this
    simp only [execOp, Sem.run_bind, this, Result.andThen_ok, Sem.run_pure]
  case convert src dst x =>
    split at h
    · rename_i k0 k1 k n h1 h2 he
      obtain rfl := Option.some.inj h
      exact ⟨_, rfl, fun w _ => by simp [execOp, ht.v he, Go.convert, run_und h1, run_und h2, Conv.intToInt]⟩
    · rename_i s h1 h2 he
      obtain rfl := Option.some.inj h
      exact ⟨_, rfl, fun w _ => by simp [execOp, ht.v he, Go.convert, run_und h1, run_und h2]⟩
    · cases h
  case nilCheck x =>
    split at h
    · rename_i b o' he
      obtain rfl := Option.some.inj h
      have hx := ht.ev x
      rw [he] at hx
      obtain ⟨g, hg, hx⟩ := hx
      exact ⟨_, ⟨g, hg, rfl⟩, fun w _ => by simp [execOp, hx]⟩
    · rename_i ad he
      obtain rfl := Option.some.inj h
      have hne := hp _ rfl
      obtain ⟨ad', rfl⟩ := Option.ne_none_iff_exists'.1 hne
      exact ⟨_, rfl, fun w _ => by simp [execOp, ht.v he]⟩
    · cases h
  case slice t x lo hi mx =>
    unfold sliceO at h
    split at h
    · rename_i s l hh hs hl hhi hm hu
      split at h
      · rename_i l' h' hl' hh'
        obtain rfl := Option.some.inj h
        obtain ⟨h0, h1, h2⟩ := hp _ rfl
        have hnu : ∀ n e, P.underlying t ≠ some (.array n e) := by rw [hu]; intro n e; simp
        refine ⟨_, rfl, fun w _ => ?_⟩
        simp [execOp, ht.val hs, ht.optVal hl, ht.optVal hhi, ht.optVal hm, Instr.sliceAt, Instr.slice, run_und hu, run_bounds hl' hh' h0 h1 h2]
      · cases h
    · rename_i ad n c l hh m e hs hl hhi hm hu
      split at h
      · rename_i l' h' sz hl' hh' hsz
        split at h
        · obtain rfl := Option.some.inj h
          obtain ⟨h0, h1, h2⟩ := hp _ rfl
          refine ⟨_, rfl, fun w _ => ?_⟩
          simp [execOp, ht.val hs, ht.optVal hl, ht.optVal hhi, ht.optVal hm, Instr.sliceAt, Instr.slice, run_und hu, run_bounds hl' hh' h0 h1 h2, run_size hsz, slA_eq h0]
        · rename_i k m'
          cases hh with
          | none => simp at h
          | some v =>
            obtain rfl := Option.some.inj h
            obtain ⟨h0, h1, h2, h3⟩ := hp _ rfl
            refine ⟨_, rfl, fun w _ => ?_⟩
            have : ∃ k, v = .int k h' := by cases v <;> simp [hiBound] at hh'; exact ⟨_, by rw [hh']⟩
            obtain ⟨kh, rfl⟩ := this
            simp [execOp, ht.val hs, ht.optVal hl, ht.optVal hhi, ht.optVal hm, Instr.sliceAt, Instr.slice, run_und hu, run_bounds3 hl' ⟨_, rfl⟩ h0 h1 h2 h3, run_size hsz, slA_eq h0]
        · cases h
      · cases h
    · cases h
  case build t parts =>
    unfold buildO at h
    split at h
    · rename_i z fs ps hz hu hps
      split at h
      · rename_i pl hpl
        split at h
        · rename_i l hl
          obtain rfl := Option.some.inj h
          refine ⟨_, rfl, fun w _ => ?_⟩
          have e1 : (parts.map fun (i, x) => (i, a.eval x)).toList = ps := by
            have := ht.partVals hps
            rw [← this]; simp
          have e2 := fill_eq (fun i => pl[i]?) ps z l hl
          have e3 : (fs.mapM fun f => do pure (f.offset, ← sizeOf f.type) : Sem (Array (Nat × Nat))).run P w = .ok pl.toArray w := by
            rw [← Array.toArray_toList (xs := fs)]
            rw [List.mapM_toArray]
            simp only [Sem.run_map, mapM_places fs.toList pl w hpl, Result.andThen_ok]
          have e4 : (fun i : Nat => (pl.toArray)[i]?) = (fun i : Nat => pl[i]?) := by funext i; simp
          simp only [execOp, Instr.build, Sem.run_bind, run_zero hz, Result.andThen_ok, run_und hu, e3, Value.cells, e1, e4, e2, Sem.run_pure]
        · cases h
      · cases h
    · cases h
  case makeFunc fn first captured =>
    split at h
    · rename_i fs cs hf hc
      obtain rfl := Option.some.inj h
      refine ⟨_, rfl, fun w _ => ?_⟩
      have h1 := ht.vals hf
      have h2 := ht.vals hc
      have e1 : first.map a.eval = fs.toArray := by apply Array.ext'; simpa using h1
      have e2 : captured.map a.eval = cs.toArray := by apply Array.ext'; simpa using h2
      simp [execOp, Instr.makeFunc, e1, e2]
    · cases h
  case makeInterface t x =>
    split at h
    · cases h
    · rename_i d v hni hu hv
      obtain rfl := Option.some.inj h
      refine ⟨_, rfl, fun w _ => ?_⟩
      simp only [execOp, Instr.makeInterface, ht.val hv, Sem.run_bind, run_und hu, Result.andThen_ok]
      cases d <;> simp_all
    · cases h
  case call c =>
    obtain ⟨callee, args, argTypes⟩ := c
    cases callee <;> simp only at h <;> try (cases h; done)
    rename_i b
    split at h
    · rename_i x t hargs htys
      obtain ⟨args⟩ := args; obtain ⟨argTypes⟩ := argTypes
      simp only at hargs htys
      subst hargs htys
      split at h
      · rename_i s hu he
        obtain rfl := Option.some.inj h
        exact ⟨_, rfl, fun w _ => by simp [execOp, resolve, invoke, Go.builtin, Builtin.len_, ht.v he, run_und hu, goInt]⟩
      · rename_i e ad n c hu he
        obtain rfl := Option.some.inj h
        exact ⟨_, rfl, fun w _ => by simp [execOp, resolve, invoke, Go.builtin, Builtin.len_, ht.v he, run_und hu, goInt]⟩
      · rename_i n e hu
        obtain rfl := Option.some.inj h
        exact ⟨_, rfl, fun w _ => by simp [execOp, resolve, invoke, Go.builtin, Builtin.len_, run_und hu, goInt]⟩
      · cases h
    · rename_i x t hargs htys
      obtain ⟨args⟩ := args; obtain ⟨argTypes⟩ := argTypes
      simp only at hargs htys
      subst hargs htys
      split at h
      · rename_i e ad n c hu he
        obtain rfl := Option.some.inj h
        exact ⟨_, rfl, fun w _ => by simp [execOp, resolve, invoke, Go.builtin, Builtin.cap_, ht.v he, run_und hu, goInt]⟩
      · cases h
    · rename_i x y hargs
      obtain ⟨args⟩ := args
      simp only at hargs
      subst hargs
      split at h
      · rename_i k m k' n he hf
        obtain rfl := Option.some.inj h
        exact ⟨_, rfl, fun w _ => by simp [execOp, resolve, invoke, Go.builtin, Builtin.max_, Builtin.max2, ht.v he, ht.v hf, maxI]⟩
      · rename_i m n he hf
        obtain rfl := Option.some.inj h
        refine ⟨_, rfl, fun w _ => ?_⟩
        have e : (if (!lessS m n) = true then m else n) = maxT m n := by unfold maxT; cases lessS m n <;> rfl
        rw [← e]
        simp [execOp, resolve, invoke, Go.builtin, Builtin.max_, Builtin.max2, ht.v he, ht.v hf, Op.stringOp, asBool, lessS]
      · cases h
    · rename_i x y hargs
      obtain ⟨args⟩ := args
      simp only at hargs
      subst hargs
      split at h
      · rename_i k m k' n he hf
        obtain rfl := Option.some.inj h
        exact ⟨_, rfl, fun w _ => by simp [execOp, resolve, invoke, Go.builtin, Builtin.min_, Builtin.min2, ht.v he, ht.v hf, minI]⟩
      · cases h
    · cases h
end
end Go.Vx
