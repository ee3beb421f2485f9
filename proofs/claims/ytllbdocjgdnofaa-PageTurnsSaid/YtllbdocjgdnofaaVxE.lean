/- The executor's operations without a step of memory: each yields, in the model, what the executor tells (third part). -/
import Derived.Test.YtllbdocjgdnofaaVxD
namespace Go.Vx
section
variable {P : Program} {β : Nat → Option Nat} {st : St} {a : Act} {w : World} {bx : List Box}

theorem run_binI {op : BinOp} {k : IntKind} {x y : Int} {t : TypeId} {r : PR} (h : binI op k x y = some r) (hp : ∀ p, r.ob = some p → p) (hs1 : op ≠ .shl) (hs2 : op ≠ .shr) :
    ∃ v, r.sv = .v v ∧ ∀ w : World, (binOp op t (.int k x) (.int k y)).run P w = .ok v w := by
  unfold binI at h
  cases op <;> simp only [pure?, Option.some.injEq] at h <;> (try cases h) <;> (try contradiction)
  all_goals refine ⟨_, rfl, fun w => ?_⟩
  all_goals first
    | (simp [binOp, Op.intArith]; done)
    | (simp [binOp, Op.intCmp]; done)
    | (simp [binOp, Op.intBits, bitsOp]; done)
    | (have hy := hp _ rfl; simp [binOp, Op.intDiv, hy]; done)
theorem run_binS {op : BinOp} {x y : ByteArray} {t : TypeId} {r : PR} (h : binS op x y = some r) (hp : ∀ p, r.ob = some p → p) :
    ∃ v, r.sv = .v v ∧ ∀ w : World, (binOp op t (.string x) (.string y)).run P w = .ok v w := by
  unfold binS at h
  cases op <;> simp only [pure?, Option.some.injEq] at h <;> (try cases h)
  all_goals refine ⟨_, rfl, fun w => ?_⟩
  all_goals first
    | (simp [binOp, Op.stringOp, eqS, lessS]; done)
    | (have hy := hp _ rfl
       have hy' : ¬ (9223372036854775807 < ((x.size : Int) + y.size)) := by simp only [Int.natCast_add] at hy; omega
       simp [binOp, Op.stringOp, IntKind.max, IntKind.signed, IntKind.bits, hy']; done)
theorem run_guardPlain {op : BinOp} {t : TypeId} {x y : Operand} {u v : Value} (h : (match u, v with | .nilIface, .nilIface => false | .agg _, .agg _ => false | _, _ => true) = true) : (eqGuard op t x y u v).run P w = .ok () w := by
  unfold eqGuard
  cases u <;> cases v <;> simp_all
theorem run_binV {op : BinOp} {t : TypeId} {x y : Value} {X Y : Operand} {r : PR} (h : binV P op t x y = some r) (hp : ∀ p, r.ob = some p → p) :
    ∃ v, r.sv = .v v ∧ ∀ w : World, (do eqGuard op t X Y x y; binOp op t x y : Sem Value).run P w = .ok v w := by
  unfold binV at h
  split at h
  · rename_i k n k' m
    have hg : ∀ w : World, (eqGuard op t X Y (.int k n) (.int k' m)).run P w = .ok () w := fun w => run_guardPlain rfl
    split at h
    · obtain rfl := Option.some.inj h
      have hm := hp _ rfl
      have hm' : ¬ m < 0 := by omega
      exact ⟨_, rfl, fun w => by simp [hg, binOp, Op.shift, hm', shlI]⟩
    · obtain rfl := Option.some.inj h
      have hm := hp _ rfl
      have hm' : ¬ m < 0 := by omega
      exact ⟨_, rfl, fun w => by simp [hg, binOp, Op.shift, hm', shrI]⟩
    · rename_i h1 h2
      split at h
      · rename_i hk
        obtain rfl := sameK_eq hk
        obtain ⟨v, hv, hr⟩ := run_binI (P := P) (t := t) h hp (by simpa using h1) (by simpa using h2)
        exact ⟨v, hv, fun w => by simp [hg, hr]⟩
      · cases h
  · obtain ⟨v, hv, hr⟩ := run_binS (P := P) (t := t) h hp
    exact ⟨v, hv, fun w => by simp [run_guardPlain, hr]⟩
  · rename_i b c
    have hg : ∀ w : World, (eqGuard op t X Y (.bool b) (.bool c)).run P w = .ok () w := fun w => run_guardPlain rfl
    split at h
    · rename_i hu
      split at h
      · obtain rfl := Option.some.inj h; exact ⟨_, rfl, fun w => by simp [hg, run_eql_bool w t _ _ hu]⟩
      · obtain rfl := Option.some.inj h; exact ⟨_, rfl, fun w => by simp [hg, run_neq_bool w t _ _ hu]⟩
      · cases h
    · cases h
  · rename_i xs ys
    split at h
    · cases h
    · rename_i hq
      have hg : ∀ w : World, (eqGuard op t X Y (.agg xs) (.agg ys)).run P w = .ok () w := fun w => run_eqGuard_agg w op t X Y xs ys (by simpa using hq)
      split at h
      · rename_i s hs
        have he : ∀ w : World, (Op.equalIn 10000 t (.agg xs) (.agg ys)).run P w = .ok s w := fun w => run_eqT 100 9900 hs
        split at h
        · obtain rfl := Option.some.inj h; exact ⟨_, rfl, fun w => by simp [hg, run_eql_struct, he]⟩
        · obtain rfl := Option.some.inj h; exact ⟨_, rfl, fun w => by simp [hg, run_neq_struct, he]⟩
        · cases h
      · cases h
  · cases h
theorem run_nilCmp {op : BinOp} {t : TypeId} {x : Value} {X y : Operand} {r : Bool} (hf : nilFits y x = true) (ho : nilOk P t x = true) (h : isNil x = some r) (w : World) :
    (op = .eql → (do eqGuard op t X y x (a.eval y); binOp op t x (a.eval y) : Sem Value).run P w = .ok (.bool r) w) ∧
    (op = .neq → (do eqGuard op t X y x (a.eval y); binOp op t x (a.eval y) : Sem Value).run P w = .ok (.bool (!r)) w) := by
  unfold nilFits at hf
  split at hf
  · rename_i p
    have he := run_eqNil (w := w) (P := P) (t := t) (z := .pointer none) (.inl rfl) (by rfl) ho h 9999
    refine ⟨fun e => ?_, fun e => ?_⟩ <;> subst e <;> simp [run_guardPlain, Act.eval, binOp, Op.equal, Op.maxDepth, he]
  · rename_i n c p n' c'
    have he := run_eqNil (w := w) (P := P) (t := t) (z := .slice none n c) (.inr (.inl ⟨_, _, rfl⟩)) (by exact ⟨_, _, rfl⟩) ho h 9999
    refine ⟨fun e => ?_, fun e => ?_⟩ <;> subst e <;> simp [run_guardPlain, Act.eval, binOp, Op.equal, Op.maxDepth, he]
  · rename_i p
    have he := run_eqNil (w := w) (P := P) (t := t) (z := .map none) (.inr (.inr rfl)) (by rfl) ho h 9999
    refine ⟨fun e => ?_, fun e => ?_⟩ <;> subst e <;> simp [run_guardPlain, Act.eval, binOp, Op.equal, Op.maxDepth, he]
  · cases hf
theorem run_binO {op : BinOp} {t : TypeId} {x y : Operand} {r : PR} (ht : TmOk β st a) (h : binO P st op t x y = some r) (hp : ∀ p, r.ob = some p → p) :
    ∃ v, r.sv = .v v ∧ ∀ w : World, (do eqGuard op t x y (a.eval x) (a.eval y); binOp op t (a.eval x) (a.eval y) : Sem Value).run P w = .ok v w := by
  unfold binO at h
  split at h
  · rename_i vx vy hn hx
    rw [ht.val hx]
    split at h
    · rename_i hf
      simp only [Bool.and_eq_true] at hf
      split at h
      · rename_i b hb
        split at h
        · obtain rfl := Option.some.inj h; exact ⟨_, rfl, fun w => (run_nilCmp hf.1 hf.2 hb w).1 rfl⟩
        · obtain rfl := Option.some.inj h; exact ⟨_, rfl, fun w => (run_nilCmp hf.1 hf.2 hb w).2 rfl⟩
        · cases h
      · cases h
    · cases h
  · rename_i vx vy hn hx hy
    rw [ht.val hx, ht.val hy]
    exact run_binV h hp
  · cases h
end
end Go.Vx
