/- The executor's operations without a step of memory: each yields, in the model, what the executor tells (second part). -/
import Derived.Test.YtllbdocjgdnofaaVxC
namespace Go.Vx
section
variable {P : Program} {β : Nat → Option Nat} {st : St} {a : Act} {w : World} {bx : List Box}

theorem add_none (g o n : Nat) : (⟨g, o, none⟩ : Addr).add n = ⟨g, o + n, none⟩ := by unfold Addr.add; split <;> simp_all
theorem drop_cons {α : Type} {l : List α} {n : Nat} {x : α} {r : List α} (h : l.drop n = x :: r) : l[n]? = some x := by
  have := congrArg (fun l => l[0]?) h
  simpa [List.getElem?_drop] using this
theorem svOf_conc (t : TypeId) (v : Value) : (svOf P t v).conc β v := by unfold svOf; split <;> rfl
theorem run_loadVar_cells {t ty : TypeId} {g off : Nat} {cs : List Value} {v : Value} {fz : Nat × Nat} (hg : w.heap[g]? = some (.cells cs.toArray ty fz)) (h : partOf P t cs off = some v) :
    (loadVar t ⟨g, off, none⟩).run P w = .ok v w := by
  have hcell : ∀ j u, cs[j]? = some u → w.cell? ⟨g, j, none⟩ = some u := fun j u hj => by simp [World.cell?, hg, hj]
  unfold partOf at h
  split at h
  · rename_i n ha hs
    split at h
    · rename_i hle
      obtain rfl := Option.some.inj h
      have hl : ((cs.drop off).take n).length = n := by simp; omega
      have := run_loadCells_list (P := P) w ⟨g, off, none⟩ ((cs.drop off).take n) (fun j u hj => by
        rw [add_none]
        refine hcell _ _ ?_
        rw [List.getElem?_take] at hj
        split at hj
        · simpa [List.getElem?_drop] using hj
        · cases hj)
      rw [hl] at this
      simp [loadVar, run_agg ha, run_size hs, this]
    · cases h
  · rename_i x ha
    split at h
    · rename_i u us hd
      obtain rfl := Option.some.inj h
      have hc := hcell off u (drop_cons hd)
      simp [loadVar, run_agg ha, hc]
    · cases h
  · cases h
theorem run_zip (a b : Nat) : a + b = b + a := Nat.add_comm a b

/-! ### == -/
theorem run_eqLeaf {t : TypeId} {x y : Value} {r : Bool} (d : Nat) (h : eqLeaf P t x y = some r) : (Op.equalIn (d + 1) t x y).run P w = .ok r w := by
  unfold eqLeaf at h
  split at h
  · split at h
    · rename_i hu
      split at h
      · rename_i hk
        obtain rfl := sameK_eq hk
        obtain rfl := Option.some.inj h
        exact run_equalIn_int w d t _ _ _ _ hu
      · cases h
    · cases h
  · split at h
    · rename_i hu
      obtain rfl := Option.some.inj h
      exact run_equalIn_bool w d t _ _ hu
    · cases h
  · split at h
    · rename_i hu
      obtain rfl := Option.some.inj h
      exact run_equalIn_string w d t _ _ hu
    · cases h
  · cases h
theorem run_eqFs {d : Nat} {eqd : TypeId → Value → Value → Option Bool} {xs ys : Array Value} (hd : ∀ t x y r, eqd t x y = some r → (Op.equalIn d t x y).run P w = .ok r w) :
    ∀ {fs : List Field} {r : Bool}, eqFs P eqd xs ys fs = some r → (Op.eqFields d xs ys fs).run P w = .ok r w
  | [], r, h => by
    obtain rfl := Option.some.inj h
    simp [Op.eqFields]
  | f :: fs, r, h => by
    rw [eqFs] at h
    by_cases hn : f.name ≠ "_"
    · rw [if_pos hn] at h
      split at h
      · rename_i x y hx hy
        have hx' := run_partOf (w := w) hx
        have hy' := run_partOf (w := w) hy
        split at h
        · rename_i s hs
          have hs' := hd _ _ _ _ hs
          rw [Op.eqFields, if_pos hn]
          simp only [Sem.run_bind, hx', hy', hs', Result.andThen_ok]
          split at h
          · obtain rfl := Option.some.inj h
            cases s <;> simp [Op.eqFields]
          · split at h
            · rename_i s' hs2
              obtain rfl := Option.some.inj h
              have ih := run_eqFs hd hs2
              cases s
              · simp
              · simpa using ih
            · cases h
        · cases h
      · cases h
    · rw [if_neg hn] at h
      rw [Op.eqFields, if_neg hn]
      exact run_eqFs hd h
theorem run_eqT : ∀ (d k : Nat) {t : TypeId} {x y : Value} {r : Bool}, eqT P d t x y = some r → (Op.equalIn (d + k) t x y).run P w = .ok r w
  | 0, _, _, _, _, _, h => by simp [eqT] at h
  | d + 1, k, t, x, y, r, h => by
    rw [show d + 1 + k = (d + k) + 1 by omega]
    simp only [eqT] at h
    split at h
    · rename_i xs ys
      split at h
      · rename_i fs hu
        split at h
        · cases h
        · rename_i hp
          have hf : P.fieldsOf t = fs := by simp [Program.fieldsOf, hu]
          rw [run_equalIn_struct (P := P) w (d + k) t xs ys (by rw [hf]; exact hu) (by simpa using hp), hf]
          exact run_eqFs (fun _ _ _ _ hh => run_eqT d k hh) h
      · cases h
    · exact run_eqLeaf (d + k) h
theorem run_eqNil {t : TypeId} {x : Value} {r : Bool} {z : Value} (hz : z = .pointer none ∨ (∃ n c, z = .slice none n c) ∨ z = .map none) (hk : match x with | .pointer _ => z = .pointer none | .slice _ _ _ => ∃ n c, z = .slice none n c | .map _ => z = .map none | _ => False)
    (ho : nilOk P t x = true) (h : isNil x = some r) (d : Nat) : (Op.equalIn (d + 1) t x z).run P w = .ok r w := by
  cases x <;> simp only [isNil] at h <;> try (cases h; done)
  case pointer p =>
    simp only at hk
    subst hk
    obtain rfl := Option.some.inj h
    simp only [nilOk] at ho
    split at ho
    · rename_i e hu
      cases p <;> simp [Op.equalIn, run_underlying hu]
    · cases ho
  case slice p n c =>
    simp only at hk
    obtain ⟨n', c', rfl⟩ := hk
    obtain rfl := Option.some.inj h
    simp only [nilOk] at ho
    split at ho
    · rename_i e hu
      cases p <;> simp [Op.equalIn, run_underlying hu]
    · cases ho
  case map p =>
    simp only at hk
    subst hk
    obtain rfl := Option.some.inj h
    simp only [nilOk] at ho
    split at ho
    · rename_i e hu
      cases p <;> simp [Op.equalIn, run_underlying hu]
    · cases ho
end
end Go.Vx
