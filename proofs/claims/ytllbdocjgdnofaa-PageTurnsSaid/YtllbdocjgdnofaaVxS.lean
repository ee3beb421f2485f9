/- From a law's arguments, as the statement reads them, to what the executor reads. -/
import Derived.Test.YtllbdocjgdnofaaVxR
namespace Go.Vx
open Go.RowKit Go.WideShapes Go.ChangeShapes

theorem exists_list {α : Type} {n : Nat} {p : Nat → α → Prop} (h : ∀ i, i < n → ∃ x, p i x) : ∃ l : List α, l.length = n ∧ ∀ (i : Nat) x, l[i]? = some x → p i x := by
  induction n with
  | zero => exact ⟨[], rfl, fun i x hx => by simp at hx⟩
  | succ n ih =>
    obtain ⟨l, hl, hp⟩ := ih fun i hi => h i (by omega)
    obtain ⟨x, hx⟩ := h n (by omega)
    refine ⟨l ++ [x], by simp [hl], fun i y hy => ?_⟩
    by_cases hi : i < l.length
    · rw [List.getElem?_append_left hi] at hy; exact hp i y hy
    · have := (List.getElem?_eq_some_iff.1 hy).1
      simp at this
      have e : i = n := by omega
      subst e
      rw [List.getElem?_append_right (by omega), hl] at hy
      simp at hy
      rw [← hy]; exact hx
theorem wf64 {n : Int} (h : (Lit.int .i64 n).wf = true) : -9223372036854775808 ≤ n ∧ n ≤ 9223372036854775807 := by
  simpa [Lit.wf, IntKind.min, IntKind.max, IntKind.signed, IntKind.bits] using h
theorem wf8 {n : Int} (h : (Lit.int .u8 n).wf = true) : 0 ≤ n ∧ n ≤ 255 := by
  simpa [Lit.wf, IntKind.min, IntKind.max, IntKind.signed, IntKind.bits] using h
/-- A slice, and what its elements say. -/
structure Sl (α : Type) where
  oa : Option Addr
  n : Nat
  c : Nat
  l : List α
def Sl.E {α : Type} (s : Sl α) : List Value := [.slice s.oa s.n s.c]
section
variable {H : Type} {enc : TypeId × Value → H} {P : Program} {W : World}
/-- What is read at a type, is some a's cells. -/
structure Opens (enc : TypeId × Value → H) (P : Program) (W : World) (t : TypeId) {α : Type} (E : α → List Value) (ok : α → Prop) : Prop where
  out : ∀ (fuel : Nat) (cs : List Value) (x : DataW H × List MemPlace), DataW.trod enc P W 0 (fun _ => true) true fuel t cs = some x → ∃ a, cs = E a ∧ ok a
def intE (k : IntKind) (n : Int) : List Value := [.int k n]
def boolE (b : Bool) : List Value := [.bool b]
def strE (s : ByteArray) : List Value := [.string s]
theorem Opens.int {t : TypeId} {k : IntKind} (ht : P.underlying t = some (.int k)) : Opens enc P W t (intE k) (fun n => (Lit.int k n).wf = true) :=
  ⟨fun _ _ _ h => by obtain ⟨n, h1, _, h2⟩ := DataW.trod_int ht h; exact ⟨n, h1, h2⟩⟩
theorem Opens.bool {t : TypeId} (ht : P.underlying t = some .bool) : Opens enc P W t boolE (fun _ => True) :=
  ⟨fun _ _ _ h => by obtain ⟨n, h1, _⟩ := DataW.trod_bool ht h; exact ⟨n, h1, trivial⟩⟩
theorem Opens.str {t : TypeId} (ht : P.underlying t = some .string) : Opens enc P W t strE (fun s => s.size ≤ maxLen) :=
  ⟨fun _ _ _ h => by obtain ⟨n, h1, _, h2⟩ := DataW.trod_string ht h; exact ⟨n, h1, h2⟩⟩
theorem Opens.slice {t e : TypeId} (ht : P.underlying t = some (.slice e)) {α : Type} {E : α → List Value} {ok : α → Prop} (he : Opens enc P W e E ok) {sz : Nat} (hc : P.cellsOf e = sz) :
    Opens enc P W t Sl.E (fun s : Sl α => RdL (heapOf W) E sz s.oa s.n s.l ∧ (∀ x ∈ s.l, ok x) ∧ s.n ≤ s.c ∧ s.c ≤ maxLen) := by
  refine ⟨fun fuel cs x h => ?_⟩
  rcases DataW.trod_slice ht h with ⟨rfl, _⟩ | ⟨a, len, cap, elems, rest, n, _, rfl, rfl, hb, hl, hm, hlen, hel, _, _⟩
  · exact ⟨⟨none, 0, 0, []⟩, rfl, RdL.nil _ _ _, by simp, Nat.le_refl _, Nat.zero_le _⟩
  · have each : ∀ i, i < len → ∃ y, ok y ∧ ∀ (j : Nat) v, (E y)[j]? = some v → hcell (heapOf W) ((a.add (i * sz)).add j) = some v := by
      intro i hi
      have hy := hel i hi
      rw [List.getElem?_eq_getElem (by omega), Option.bind_eq_some_iff] at hy
      obtain ⟨cs, h1, h2⟩ := hy
      obtain ⟨y, rfl, hok⟩ := he.out _ _ _ h2
      obtain ⟨_, h3, h4⟩ := World.cells?_some h1
      rw [hc] at h3 h4
      refine ⟨y, hok, fun j v hj => ?_⟩
      have := h4 j (by have := (List.getElem?_eq_some_iff.1 hj).1; omega)
      rw [hj] at this
      exact this
    obtain ⟨l, hll, hp⟩ := exists_list each
    refine ⟨⟨some a, len, cap, l⟩, rfl, ⟨hll, (fun e => by cases e), fun i y hy => ⟨⟨_, rfl, ?_⟩⟩⟩, fun y hy => ?_, hl, hm⟩
    · exact (hp i y hy).2
    · obtain ⟨i, hi⟩ := List.getElem?_of_mem hy
      exact (hp i y hi).1
/-- Fields one behind the other. -/
def pairE {α β : Type} (A : α → List Value) (B : β → List Value) (x : α × β) : List Value := A x.1 ++ B x.2
def FieldsAt (P : Program) : List Field → Nat → Bool
  | [], _ => true
  | f :: fs, off => f.offset == off && FieldsAt P fs (off + P.cellsOf f.type)
/-- What is read at a list of fields. -/
structure OpensF (enc : TypeId × Value → H) (P : Program) (W : World) (fs : List Field) {α : Type} (E : α → List Value) (ok : α → Prop) : Prop where
  out : ∀ (fuel off : Nat) (cs : List Value), (∀ f ∈ fs, ∃ x, DataW.trod enc P W 0 (fun _ => true) true fuel f.type ((cs.drop f.offset).take (P.cellsOf f.type)) = some x) → FieldsAt P fs off = true →
    cs.length = off + (fs.map fun f => P.cellsOf f.type).sum → ∃ a, cs.drop off = E a ∧ ok a
theorem OpensF.one {f : Field} {α : Type} {A : α → List Value} {okA : α → Prop} (h : Opens enc P W f.type A okA) : OpensF enc P W [f] A okA := by
  refine ⟨fun fuel off cs hx hat hl => ?_⟩
  obtain ⟨x, hx⟩ := hx f (by simp)
  simp [FieldsAt] at hat hl
  rw [hat, List.take_of_length_le (by rw [List.length_drop]; omega)] at hx
  exact h.out _ _ _ hx
theorem OpensF.cons {f g : Field} {fs : List Field} {α β : Type} {A : α → List Value} {okA : α → Prop} {B : β → List Value} {okB : β → Prop} (h : Opens enc P W f.type A okA) (hr : OpensF enc P W (g :: fs) B okB) :
    OpensF enc P W (f :: g :: fs) (pairE A B) (fun x => okA x.1 ∧ okB x.2) := by
  refine ⟨fun fuel off cs hx hat hl => ?_⟩
  obtain ⟨x, hx1⟩ := hx f (by simp)
  rw [FieldsAt, Bool.and_eq_true] at hat
  have ho : f.offset = off := by simpa using hat.1
  rw [ho] at hx1
  obtain ⟨a, e1, h1⟩ := h.out _ _ _ hx1
  obtain ⟨b, e2, h2⟩ := hr.out fuel _ cs (fun f' hf' => hx f' (List.mem_cons_of_mem _ hf')) hat.2 (by rw [hl]; simp [Nat.add_assoc])
  refine ⟨(a, b), ?_, h1, h2⟩
  unfold pairE
  rw [← e1, ← e2, ← List.drop_drop, List.take_append_drop]
theorem Opens.struct {t : TypeId} {fs : Array Field} (ht : P.underlying t = some (.struct fs)) {α : Type} {E : α → List Value} {ok : α → Prop} (h : OpensF enc P W fs.toList E ok) (hat : FieldsAt P fs.toList 0 = true)
    (hC : P.cellsOf t = (fs.toList.map fun f => P.cellsOf f.type).sum) : Opens enc P W t E ok := by
  refine ⟨fun fuel cs x hx => ?_⟩
  obtain ⟨xs, n, _, _, hl, hxl, hf⟩ := DataW.trod_struct ht hx
  obtain ⟨a, e, h1⟩ := h.out n 0 cs (fun f hf' => by
    obtain ⟨i, hi⟩ := List.getElem?_of_mem hf'
    have := hf i f (by simpa using hi)
    have hil : i < xs.length := by rw [hxl]; simpa using (List.getElem?_eq_some_iff.1 hi).1
    exact ⟨xs[i], by rw [this, List.getElem?_eq_getElem hil]⟩) hat (by rw [hl, hC, Nat.zero_add])
  exact ⟨a, by simpa using e, h1⟩
theorem Opens.weaken {t : TypeId} {α : Type} {E : α → List Value} {ok ok' : α → Prop} (h : Opens enc P W t E ok) (hk : ∀ a, ok a → ok' a) : Opens enc P W t E ok' :=
  ⟨fun f cs x hx => by obtain ⟨a, e, ha⟩ := h.out f cs x hx; exact ⟨a, e, hk a ha⟩⟩
theorem Opens.map {t : TypeId} {α β : Type} {E : α → List Value} {ok : α → Prop} {E' : β → List Value} {ok' : β → Prop} (h : Opens enc P W t E ok) (f : α → β) (he : ∀ a, E a = E' (f a)) (hk : ∀ a, ok a → ok' (f a)) : Opens enc P W t E' ok' :=
  ⟨fun fu cs x hx => by obtain ⟨a, e, ha⟩ := h.out fu cs x hx; exact ⟨f a, by rw [e, he], hk a ha⟩⟩
/-- An argument that is a struct. -/
theorem Opens.agg {t : TypeId} {α : Type} {E : α → List Value} {ok : α → Prop} (h : Opens enc P W t E ok) {fs : Array Field} (ht : P.underlying t = some (.struct fs)) {r : Reach} {b0 : Nat} {v : Value} {d : DataW H} {ps : List MemPlace}
    (hval : Value.okWide P W r b0 t v) (hd : DataW.Trod enc P W 0 (fun _ => true) true t v d ps) : ∃ a, v = .agg (E a).toArray ∧ ok a := by
  obtain ⟨cs, rfl, _⟩ := okWide_struct ht hval
  obtain ⟨fuel, hf⟩ := hd
  obtain ⟨a, e, h1⟩ := h.out _ _ _ hf
  exact ⟨a, by rw [← e]; simp [Value.cells], h1⟩
theorem Opens.oneS {t e : TypeId} {α : Type} {ok : Sl α → Prop} (h : Opens enc P W t Sl.E ok) (ht : P.underlying t = some (.slice e)) {r : Reach} {b0 : Nat} {v : Value} {d : DataW H} {ps : List MemPlace}
    (hval : Value.okWide P W r b0 t v) (hd : DataW.Trod enc P W 0 (fun _ => true) true t v d ps) : ∃ a : Sl α, v = .slice a.oa a.n a.c ∧ ok a := by
  obtain ⟨a, n, c, rfl⟩ := okWide_slice ht hval
  obtain ⟨fuel, hf⟩ := hd
  obtain ⟨s, e, h1⟩ := h.out _ _ _ hf
  simp [Value.cells, Sl.E] at e
  exact ⟨s, by simp [e], h1⟩
theorem Opens.oneStr {t : TypeId} {ok : ByteArray → Prop} (h : Opens enc P W t strE ok) (ht : P.underlying t = some .string) {r : Reach} {b0 : Nat} {v : Value} {d : DataW H} {ps : List MemPlace}
    (hval : Value.okWide P W r b0 t v) (hd : DataW.Trod enc P W 0 (fun _ => true) true t v d ps) : ∃ s, v = .string s ∧ ok s := by
  obtain ⟨a, rfl⟩ := okWide_string ht hval
  obtain ⟨fuel, hf⟩ := hd
  obtain ⟨s, e, h1⟩ := h.out _ _ _ hf
  simp [Value.cells, strE] at e
  exact ⟨s, by simp [e], h1⟩
theorem Opens.oneInt {t : TypeId} {k : IntKind} {ok : Int → Prop} (h : Opens enc P W t (intE k) ok) (ht : P.underlying t = some (.int k)) {r : Reach} {b0 : Nat} {v : Value} {d : DataW H} {ps : List MemPlace}
    (hval : Value.okWide P W r b0 t v) (hd : DataW.Trod enc P W 0 (fun _ => true) true t v d ps) : ∃ n, v = .int k n ∧ ok n := by
  obtain ⟨a, rfl⟩ := okWide_int ht hval
  obtain ⟨fuel, hf⟩ := hd
  obtain ⟨s, e, h1⟩ := h.out _ _ _ hf
  simp [Value.cells, intE] at e
  exact ⟨s, by simp [e], h1⟩
theorem Opens.oneBool {t : TypeId} {ok : Bool → Prop} (h : Opens enc P W t boolE ok) (ht : P.underlying t = some .bool) {r : Reach} {b0 : Nat} {v : Value} {d : DataW H} {ps : List MemPlace}
    (hval : Value.okWide P W r b0 t v) (hd : DataW.Trod enc P W 0 (fun _ => true) true t v d ps) : ∃ n, v = .bool n ∧ ok n := by
  obtain ⟨a, rfl⟩ := okWide_bool ht hval
  obtain ⟨fuel, hf⟩ := hd
  obtain ⟨s, e, h1⟩ := h.out _ _ _ hf
  simp [Value.cells, boolE] at e
  exact ⟨s, by simp [e], h1⟩
end
end Go.Vx
