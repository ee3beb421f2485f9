/- The executor's operations without a step of memory: all of them. -/
import Derived.Test.YtllbdocjgdnofaaVxE
namespace Go.Vx
section
variable {P : Program} {β : Nat → Option Nat} {st : St} {a : Act} {w : World} {bx : List Box}

theorem getElem?_of_drop {α : Type} {xs : Array α} {i : Nat} {f : α} {fs : List α} (h : xs.toList.drop i = f :: fs) : xs[i]? = some f := by
  have := drop_cons h
  simpa using this
theorem asInt_slice (xs : Value) : True := trivial
theorem run_bound {x : Value} {n : Int} {y : Nat} {c : BoundsCode} {k : IntKind} (hx : x = .int k n) (h0 : 0 ≤ n) (h1 : n ≤ y) : (Instr.sliceBound x y c).run P w = .ok n.toNat w := by
  subst hx
  simp [Instr.sliceBound, asIntOf, h0, h1]
theorem run_bounds {lo hi : Option Value} {l h : Int} {isS : Bool} {len cap : Nat} (hl : loBound lo = some l) (hh : hiBound len hi = some h) (h0 : 0 ≤ l) (h1 : l ≤ h) (h2 : h ≤ cap) :
    (Instr.sliceBounds isS len cap lo hi none).run P w = .ok (l.toNat, h.toNat, cap) w := by
  have hhr : ∃ k, (hi = none ∧ h = len) ∨ hi = some (.int k h) := by
    cases hi with
    | none => simp [hiBound] at hh; exact ⟨.i64, .inl ⟨rfl, hh.symm⟩⟩
    | some v => cases v <;> simp [hiBound] at hh; rename_i k n; exact ⟨k, .inr (by rw [hh])⟩
  have hlr : ∃ k, (lo = none ∧ l = 0) ∨ lo = some (.int k l) := by
    cases lo with
    | none => simp [loBound] at hl; exact ⟨.i64, .inl ⟨rfl, hl.symm⟩⟩
    | some v => cases v <;> simp [loBound] at hl; rename_i k n; exact ⟨k, .inr (by rw [hl])⟩
  obtain ⟨kh, hh'⟩ := hhr
  obtain ⟨kl, hl'⟩ := hlr
  have hn : ((h.toNat : Nat) : Int) = h := by omega
  rcases hh' with ⟨rfl, rfl⟩ | rfl <;> rcases hl' with ⟨rfl, rfl⟩ | rfl
  · simp [Instr.sliceBounds]
  · simp [Instr.sliceBounds, run_bound (P := P) (w := w) (x := .int kl l) (y := len) rfl h0 h1]
  · simp [Instr.sliceBounds, run_bound (P := P) (w := w) (x := .int kh h) (y := cap) rfl (by omega) h2]
  · simp [Instr.sliceBounds, run_bound (P := P) (w := w) (x := .int kh h) (y := cap) rfl (by omega) h2, run_bound (P := P) (w := w) (x := .int kl l) (y := h.toNat) rfl h0 (by omega)]
theorem run_bounds3 {lo hi : Option Value} {l h m : Int} {km : IntKind} {len cap : Nat} (hl : loBound lo = some l) (hhi : ∃ k, hi = some (.int k h)) (h0 : 0 ≤ l) (h1 : l ≤ h) (h2 : h ≤ m) (h3 : m ≤ cap) :
    (Instr.sliceBounds true len cap lo hi (some (.int km m))).run P w = .ok (l.toNat, h.toNat, m.toNat) w := by
  obtain ⟨kh, rfl⟩ := hhi
  have hlr : ∃ k, (lo = none ∧ l = 0) ∨ lo = some (.int k l) := by
    cases lo with
    | none => simp [loBound] at hl; exact ⟨.i64, .inl ⟨rfl, hl.symm⟩⟩
    | some v => cases v <;> simp [loBound] at hl; rename_i k n; exact ⟨k, .inr (by rw [hl])⟩
  obtain ⟨kl, hl'⟩ := hlr
  rcases hl' with ⟨rfl, rfl⟩ | rfl
  · simp [Instr.sliceBounds, run_bound (P := P) (w := w) (x := .int km m) (y := cap) rfl (by omega) h3, run_bound (P := P) (w := w) (x := .int kh h) (y := m.toNat) rfl (by omega) (by omega)]
  · simp [Instr.sliceBounds, run_bound (P := P) (w := w) (x := .int km m) (y := cap) rfl (by omega) h3, run_bound (P := P) (w := w) (x := .int kh h) (y := m.toNat) rfl (by omega) (by omega), run_bound (P := P) (w := w) (x := .int kl l) (y := h.toNat) rfl h0 (by omega)]
theorem slA_eq {ad : Option Addr} {l : Int} {m sz : Nat} (h0 : 0 ≤ l) : (if m = l.toNat then ad else ad.map (·.add (l.toNat * sz))) = slA ad l m sz := by
  unfold slA
  by_cases e : m = l.toNat
  · rw [if_pos e, if_pos (by omega)]
  · rw [if_neg e, if_neg (by omega)]
theorem mapM_places : ∀ (fs : List Field) (l : List (Nat × Nat)) (w : World), buildPlaces P fs = some l → ((fs.mapM fun f => do pure (f.offset, ← sizeOf f.type) : Sem (List (Nat × Nat)))).run P w = .ok l w
  | [], l, w, h => by simp [buildPlaces] at h; simp [← h]
  | f :: fs, l, w, h => by
    simp only [buildPlaces] at h
    split at h
    · rename_i n l' hn hl
      obtain rfl := Option.some.inj h
      have ih := mapM_places fs l' w hl
      simp only [List.mapM_cons, Sem.run_bind, run_size hn, Result.andThen_ok, Sem.run_pure, ih]
    · cases h
theorem fold_over : ∀ (cs : List Value) (base : Array Value) (off k : Nat), off + k + cs.length ≤ base.size →
    (cs.zipIdx k).foldl (fun acc (c, j) => acc.setIfInBounds (off + j) c) base = (over base.toList (off + k) cs).toArray
  | [], base, off, k, _ => by simp [over]
  | c :: cs, base, off, k, h => by
    simp only [List.zipIdx_cons, List.foldl_cons]
    rw [fold_over cs (base.setIfInBounds (off + k) c) off (k + 1) (by simp at h ⊢; omega)]
    congr 1
    have e := list_seg_step base.toList (off + k) c cs (by simp at h ⊢; omega)
    simpa [over, Array.toList_setIfInBounds, Nat.add_assoc] using e
theorem fill_eq (pl : Nat → Option (Nat × Nat)) : ∀ (ps : List (Nat × Value)) (base : Array Value) (l : List Value), fillL pl base.toList ps = some l → Instr.fill pl base ps = some l.toArray
  | [], base, l, h => by simp [fillL] at h; simp [Instr.fill, ← h]
  | (i, v) :: ps, base, l, h => by
    simp only [fillL] at h
    split at h
    · cases h
    · rename_i off size hp
      split at h
      · rename_i hs
        split at h
        · rename_i ho
          have h1 : v.cells.size = size := by rw [cells_size]; exact hs
          have e : v.cells.zipIdx.foldl (fun cs (c, j) => cs.setIfInBounds (off + j) c) base = (over base.toList off (cellsL v)).toArray := by
            rw [← Array.foldl_toList, Array.toList_zipIdx, cells_toList]
            have := fold_over (cellsL v) base off 0 (by simp at ho ⊢; omega)
            simpa using this
          have ih := fill_eq pl ps (over base.toList off (cellsL v)).toArray l (by simpa using h)
          have h2 : ¬ (off + v.cells.size > base.size) := by simp at ho; omega
          simp only [Instr.fill, hp]
          rw [if_neg (by simp [h1]; simp at ho; omega), e]
          exact ih
        · cases h
      · cases h
end
end Go.Vx
