/- The executor's use: slices, maps, texts, objects. -/
import Derived.Test.YtlhnepjidbofnaaDoorE2
import Derived.ProofKit
import Derived.ArgAppend
import Derived.Lib.AppendStr
import Derived.Laws.OwnMore
import Derived.Lib.AppendZerosOnto
import Derived.Lib.Overlaps
import Derived.Laws.Externs
import Derived.Lib.Strings
import Derived.MapKept
import Derived.Maps.RangeRun
import Derived.Sort.Grow
import Derived.Laws.IdiomStrings
import Derived.Laws.BytesArg
import Derived.LaidEql
/- The executor's use: contracts of calls, and from a contract to a row. -/
namespace Go.Vx
open Go.RowKit Go.WideShapes Go.ChangeShapes

theorem Sub.refl (H : PHeap) : Sub H H := ⟨fun _ _ h => h⟩
theorem Sub.trans {A B C : PHeap} (h : Sub A B) (h' : Sub B C) : Sub A C := ⟨fun k o hk => h'.le k o (h.le k o hk)⟩
theorem Sub.upd {H : PHeap} {b : Nat} (o : Obj) (h : H b = none) : Sub H (H.upd b o) := ⟨fun k o' hk => by unfold PHeap.upd; rw [if_neg (fun e => by rw [e, h] at hk; cases hk)]; exact hk⟩
theorem Triple.mono {P : Program} {f : FuncId} {args : Array Value} {H : PHeap} {Q Q' : Value → PHeap → Prop} (h : Triple P f args H Q) (hq : ∀ v H', Q v H' → Q' v H') : Triple P f args H Q' :=
  ⟨fun w hs => (h.out w hs).mono fun _ _ ⟨v, H', he, hn, hQ⟩ => ⟨v, H', he, hn, hq v H' hQ⟩⟩
/-- A function that only computes. -/
def Pure (P : Program) (f : FuncId) (args : Array Value) (v : Value) : Prop := ∀ H, Triple P f args H fun v' H' => v' = v ∧ H' = H
theorem Pure.use {P : Program} {f : FuncId} {args : Array Value} {v : Value} (h : Pure P f args v) {H : PHeap} {Q : Value → PHeap → Prop} (hq : Q v H) : Triple P f args H Q :=
  (h H).mono fun _ _ ⟨e1, e2⟩ => by rw [e1, e2]; exact hq

/-! ### From a contract to a row -/
def heapOf (W : World) : PHeap := fun k => W.heap[k]?
theorem sees_heapOf (W : World) : Sees (heapOf W) W := fun _ _ h => h
theorem below_of {W W' : World} {H' : PHeap} (h : Nx (heapOf W) H' W W') (hs : Sub (heapOf W) H') : Below W.heap.size W W' := by
  refine ⟨h.os, h.tape, h.output, h.size, fun k hk => ?_⟩
  have : W.heap[k]? = some W.heap[k] := Array.getElem?_eq_getElem hk
  rw [this]
  exact h.sees k _ (hs.le k _ this)
section
variable {H : Type} {enc : TypeId × Value → H} {P : Program}
theorem trodAll_stays (hl : laidOutB P = true) {W W' : World} (hb : Below W.heap.size W W') {sp : Nat → Bool} :
    ∀ {ts : List TypeId} {vs : List Value} {ds : List (DataW H)} {ps : List MemPlace}, (∀ t ∈ ts, P.readableRec t = true ∧ t < P.types.size) → DataW.TrodAll enc P W 0 (fun _ => true) true ts vs ds ps →
      (∀ x ∈ ps, x.block < W.heap.size) → (∀ x ∈ ps, sp x.block = true) → DataW.TrodAll enc P W' 0 sp true ts vs ds ps
  | [], vs, ds, ps, _, h, _, _ => by
    obtain ⟨rfl, rfl, rfl⟩ := trodAll_nil h
    exact h
  | t :: ts, vs, ds, ps, ht, h, hlt, hsp => by
    obtain ⟨v, vs', d, ds', p, q, rfl, rfl, rfl, h1, h2⟩ := trodAll_cons h
    have hl1 : ∀ x ∈ p, x.block < W.heap.size := fun x hx => hlt x (List.mem_append.2 (.inl hx))
    refine ⟨p, q, ?_, trodAll_stays hl hb (fun t' ht' => ht t' (List.mem_cons_of_mem _ ht')) h2 (fun x hx => hlt x (List.mem_append.2 (.inr hx))) (fun x hx => hsp x (List.mem_append.2 (.inr hx))), rfl⟩
    exact WideElems.Trod_stays hl (ht t (List.mem_cons_self ..)).1 (ht t (List.mem_cons_self ..)).2 h1 (fun x hx => hb.same (hl1 x hx)) (fun x hx => hsp x (List.mem_append.2 (.inl hx)))
/-- The row's end, for a law: true, each argument as it was. -/
theorem law_post {f : Func} {s : ChangeSpec} {apart fresh handsOn again : Bool} {W W' : World} {args : Array Value} {ds gs : List (DataW H)} {before : List MemPlace} {t : TypeId} {H' : PHeap}
    (hW : DataW.Whole enc P f.params.toList s.vars apart W args.toList ds gs before) (hl : laidOutB P = true) (hvars : s.vars = []) (hr : f.resultTypes = #[t]) (ht : P.underlying t = some .bool)
    (hparams : ∀ t ∈ f.params.toList, P.readableRec t = true ∧ t < P.types.size) (hspec : s.fn H (ds ++ gs) = { results := [.lit (.bool true)], args := ds })
    (hn : Nx (heapOf W) H' W W') (hsub : Sub (heapOf W) H') : s.post enc P f apart fresh handsOn again W args (.bool true) W' := by
  have hb := below_of hn hsub
  have hlt : ∀ p ∈ before, p.block < W.heap.size := fun p hp => hW.lt p hp
  have hW' := hW
  obtain ⟨pa, pv, hA, hV, rfl, hz, hnd⟩ := hW'
  have hpv : pv = [] ∧ gs = [] := by
    rw [hvars] at hV
    obtain ⟨h1, h2⟩ := trodVars_none hV
    exact ⟨h2, h1⟩
  obtain ⟨rfl, rfl⟩ := hpv
  simp only [List.append_nil] at hlt
  have hA' : ∀ sp : Nat → Bool, (∀ p ∈ pa, sp p.block = true) → DataW.TrodAll enc P W' 0 sp true f.params.toList args.toList ds pa := fun sp hsp => trodAll_stays hl hb hparams hA hlt hsp
  have hres : ∀ (b : Nat) (sp : Nat → Bool) (hd : Bool), DataW.TrodAll enc P W' b sp hd f.resultTypes.toList ((Value.bool true).resultList f.resultTypes.size) [.lit (.bool true)] [] := by
    intro b sp hd
    rw [hr]
    exact trodAll_mk1 ⟨1, by simp [DataW.trod, ht, Value.cells]⟩
  have hvar : ∀ sp : Nat → Bool, DataW.TrodVars enc P W' sp s.vars ([] : List (DataW H)) [] := fun sp => by rw [hvars]; exact rfl
  have hold : ∀ p ∈ pa, (fun b => decide (b < W.heap.size)) p.block = true := fun p hp => by simpa using hlt p hp
  refine ⟨ds, [], pa ++ [], [], pa, [], hW, by rw [hspec]; exact hres _ _ _, by rw [hspec]; exact hA' _ hold, by rw [hspec]; exact hvar _, World.keptBut_mono (fun p hp => ⟨hp, .inr (.inl (by simpa using hp))⟩) (hb.frame (· ∈ pa ++ [])), fun _ => ⟨?_, ?_⟩⟩
  · intro j t' r hj hv
    rw [hr] at hj hv
    match j, hj, hv with
    | 0, hj, hv =>
      simp [Value.resultList] at hj hv
      subst hj hv
      exact okWide_bool_mk ht true
    | j + 1, hj, _ => simp at hj
  · refine ⟨_, _, _, ⟨[] ++ pa, [], trodAll_append (hA' _ (fun _ _ => rfl)) (hres _ _ _), hvar _, rfl, ?_, ?_⟩, ?_⟩
    · intro b off hp
      have hin : MemPlace.cell b off ∈ pa := by simpa using hp
      rw [hb.frozen (hlt _ hin)]
      exact hz b off (by simpa using hin)
    · intro ha
      have := hnd ha
      simpa using this
    · intro p hp _
      simpa using hp
end
end Go.Vx

/- The executor's use: slices that are read, slices that are the call's own, and 'append'. -/
namespace Go.Vx

theorem wrap64 {n : Int} (h1 : -9223372036854775808 ≤ n) (h2 : n ≤ 9223372036854775807) : IntKind.i64.wrap n = n := by
  simp [IntKind.wrap, IntKind.bits, IntKind.signed]
  omega

/-! ### Cells -/
theorem hcell_add (H : PHeap) (a : Addr) (n i : Nat) : hcell H ((a.add n).add i) = hcell H (a.add (n + i)) := by
  rw [Addr.add_add]
theorem hcell_mono {H H' : PHeap} {a : Addr} {v : Value} (h : ∀ o, H a.block = some o → H' a.block = some o) (hc : hcell H a = some v) : hcell H' a = some v := by
  unfold hcell at *
  cases hb : H a.block with
  | none => rw [hb] at hc; cases hc
  | some o => rw [h o hb]; rw [hb] at hc; exact hc
theorem hcell_world {H : PHeap} {w : World} (hs : Sees H w) {a : Addr} {v : Value} (hc : hcell H a = some v) : w.cell? a = some v := by
  unfold hcell at hc
  unfold World.cell?
  cases hb : H a.block with
  | none => rw [hb] at hc; cases hc
  | some o => rw [hs _ _ hb]; rw [hb] at hc; cases o <;> simp_all
theorem Reads.mono {H H' : PHeap} (hs : Sub H H') {oa : Option Addr} {l : List Value} (h : Reads H oa l) : Reads H' oa l := by
  obtain ⟨a, e, h⟩ := h.out
  exact ⟨a, e, fun i v hv => hcell_mono (hs.le _) (h i v hv)⟩

theorem Reads.fld {H : PHeap} {oa : Option Addr} {l l2 : List Value} (h : Reads H oa l) (off : Nat) (hl : ∀ (i : Nat) v, l2[i]? = some v → l[off + i]? = some v) : Reads H (fldA oa off) l2 := by
  obtain ⟨a, rfl, hg⟩ := h.out
  exact ⟨⟨_, rfl, fun i v hv => by rw [hcell_add]; exact hg _ _ (hl i v hv)⟩⟩

/-! ### What is known of the blocks but one -/
/-- All known blocks but the one of oa are as they were. -/
def Frame (oa : Option Addr) (H H' : PHeap) : Prop := ∀ k o, H k = some o → (∀ a, oa = some a → k ≠ a.block) → H' k = some o
/-- The block of oa' is the one of oa, or was not known. -/
def Fresh (oa oa' : Option Addr) (H : PHeap) : Prop := ∀ a', oa' = some a' → (∃ a, oa = some a ∧ a.block = a'.block) ∨ H a'.block = none
/-- A slice's block lies beyond a part of the heap. -/
def Off (F : PHeap) (oa : Option Addr) : Prop := ∀ a, oa = some a → F a.block = none
theorem Off.none (F : PHeap) : Off F .none := fun _ h => by cases h
theorem Frame.sub {oa : Option Addr} {F H H' : PHeap} (h : Frame oa H H') (hs : Sub F H) (ho : Off F oa) : Sub F H' :=
  ⟨fun k o hk => h k o (hs.le k o hk) (fun a ha e => by rw [e, ho a ha] at hk; cases hk)⟩
theorem Fresh.off {oa oa' : Option Addr} {F H : PHeap} (h : Fresh oa oa' H) (hs : Sub F H) (ho : Off F oa) : Off F oa' := by
  intro a' ha'
  rcases h a' ha' with ⟨a, ha, e⟩ | hn
  · rw [← e]; exact ho a ha
  · cases hk : F a'.block with
    | none => rfl
    | some o => rw [hs.le _ _ hk] at hn; cases hn

/-! ### Slices that are read -/
/-- At oa on lie the elements of l, each E's cells, sz of them. -/
structure RdL {α : Type} (H : PHeap) (E : α → List Value) (sz : Nat) (oa : Option Addr) (n : Nat) (l : List α) : Prop where
  len : l.length = n
  pos : oa = none → n = 0
  get : ∀ (i : Nat) x, l[i]? = some x → Reads H (elemA oa i sz) (E x)
theorem RdL.mono {α : Type} {H H' : PHeap} {E : α → List Value} {sz : Nat} {oa : Option Addr} {n : Nat} {l : List α} (hs : Sub H H') (h : RdL H E sz oa n l) : RdL H' E sz oa n l :=
  ⟨h.len, h.pos, fun i x hx => (h.get i x hx).mono hs⟩
theorem RdL.nil {α : Type} (H : PHeap) (E : α → List Value) (sz : Nat) : RdL H E sz none 0 ([] : List α) := ⟨rfl, fun _ => rfl, fun i x h => by simp at h⟩
theorem RdL.at {α : Type} {H : PHeap} {E : α → List Value} {sz : Nat} {oa : Option Addr} {n : Nat} {l : List α} (h : RdL H E sz oa n l) {i : Int} {x : α} (h0 : 0 ≤ i) (hx : l[i.toNat]? = some x) : Reads H (elemA oa i sz) (E x) := by
  have := h.get i.toNat x hx
  rwa [show ((i.toNat : Nat) : Int) = i by omega] at this
theorem RdL.ne {α : Type} {H : PHeap} {E : α → List Value} {sz : Nat} {oa : Option Addr} {n : Nat} {l : List α} (h : RdL H E sz oa n l) {i : Int} (h0 : 0 ≤ i) (hi : i < n) : oa ≠ none := fun e => by
  have := h.pos e
  omega
theorem RdL.ob {α : Type} {H : PHeap} {E : α → List Value} {sz : Nat} {oa : Option Addr} {n : Nat} {l : List α} (h : RdL H E sz oa n l) {i : Int} (h0 : 0 ≤ i) (hi : i < n) : Ob (oa ≠ none ∧ 0 ≤ i ∧ i < n) := ⟨h.ne h0 hi, h0, hi⟩
theorem RdL.ex {α : Type} {H : PHeap} {E : α → List Value} {sz : Nat} {oa : Option Addr} {n : Nat} {l : List α} (h : RdL H E sz oa n l) {i : Int} (h0 : 0 ≤ i) (hi : i < n) : ∃ x, l[i.toNat]? = some x ∧ Reads H (elemA oa i sz) (E x) := by
  have hl : i.toNat < l.length := by have := h.len; omega
  exact ⟨l[i.toNat], List.getElem?_eq_getElem hl, h.at h0 (List.getElem?_eq_getElem hl)⟩
theorem RdL.elem_ne {α : Type} {H : PHeap} {E : α → List Value} {sz : Nat} {oa : Option Addr} {n : Nat} {l : List α} (h : RdL H E sz oa n l) {i : Int} (h0 : 0 ≤ i) (hi : i < n) : elemA oa i sz ≠ none := by
  have := h.ne h0 hi
  cases oa with
  | none => exact absurd rfl this
  | some a => simp [elemA]

/-! ### Slices that are the call's own -/
structure Owns (H : PHeap) (e : TypeId) (size : Nat) (oa : Option Addr) (n c : Nat) (xs : List Value) : Prop where
  len : xs.length = n * size
  row : (oa = none ∧ n = 0 ∧ c = 0) ∨ ∃ g cur, oa = some ⟨g, 0, none⟩ ∧ H g = some (.cells cur e (0, 0)) ∧ n ≤ c ∧ c ≤ maxLen ∧ cur.size = c * size ∧ cur.toList.take (n * size) = xs
theorem Owns.nil (H : PHeap) (e : TypeId) (size : Nat) : Owns H e size none 0 0 [] := ⟨by simp, .inl ⟨rfl, rfl, rfl⟩⟩
theorem Owns.mono {H H' : PHeap} {e : TypeId} {size : Nat} {oa : Option Addr} {n c : Nat} {xs : List Value} (h : Owns H e size oa n c xs) (hs : ∀ a o, oa = some a → H a.block = some o → H' a.block = some o) : Owns H' e size oa n c xs := by
  refine ⟨h.len, h.row.imp id ?_⟩
  rintro ⟨g, cur, e1, e2, e3⟩
  exact ⟨g, cur, e1, hs _ _ e1 e2, e3⟩
theorem Owns.cell {H : PHeap} {e : TypeId} {size : Nat} {a : Addr} {n c : Nat} {xs : List Value} (h : Owns H e size (some a) n c xs) : ∀ (j : Nat) u, xs[j]? = some u → hcell H (a.add j) = some u := by
  rcases h.row with ⟨e1, _⟩ | ⟨g, cur, e1, hg, _, _, _, ht⟩
  · cases e1
  · cases e1
    intro j u hj
    rw [← ht] at hj
    have hjl := (List.getElem?_eq_some_iff.1 hj).1
    simp at hjl
    rw [List.getElem?_take_of_lt (by omega)] at hj
    unfold hcell
    rw [Addr.add_lit]
    simp [hg]
    simpa using hj
theorem flatMap_get {α : Type} {E : α → List Value} {sz : Nat} (hE : ∀ x, (E x).length = sz) : ∀ (l : List α) (i : Nat) (x : α), l[i]? = some x → ∀ (j : Nat) v, (E x)[j]? = some v → (l.flatMap E)[i * sz + j]? = some v
  | [], i, x, h, _, _, _ => by simp at h
  | y :: ys, 0, x, h, j, v, hv => by
    simp at h
    subst h
    rw [List.flatMap_cons, List.getElem?_append_left (by rw [Nat.zero_mul, Nat.zero_add]; exact (List.getElem?_eq_some_iff.1 hv).1)]
    simpa using hv
  | y :: ys, i + 1, x, h, j, v, hv => by
    simp at h
    rw [List.flatMap_cons, List.getElem?_append_right (by rw [hE, Nat.add_mul]; omega), hE, show (i + 1) * sz + j - sz = i * sz + j by rw [Nat.add_mul]; omega]
    exact flatMap_get hE ys i x h j v hv
/-- A slice of the call's own, of elements of a kind. -/
abbrev OwnL {α : Type} (H : PHeap) (e : TypeId) (E : α → List Value) (sz : Nat) (oa : Option Addr) (n c : Nat) (l : List α) : Prop := Owns H e sz oa n c (l.flatMap E)
theorem length_flatMap {α : Type} {E : α → List Value} {sz : Nat} (hE : ∀ x, (E x).length = sz) (l : List α) : (l.flatMap E).length = l.length * sz := by
  induction l with
  | nil => simp
  | cons x xs ih => rw [List.flatMap_cons, List.length_append, ih, hE, List.length_cons, Nat.add_mul]; omega
theorem Owns.rd {α : Type} {H : PHeap} {e : TypeId} {E : α → List Value} {sz : Nat} (hsz : 0 < sz) (hE : ∀ x, (E x).length = sz) {oa : Option Addr} {n c : Nat} {l : List α} (h : OwnL H e E sz oa n c l) : RdL H E sz oa n l := by
  have hlen := h.len
  rw [length_flatMap hE] at hlen
  refine ⟨Nat.eq_of_mul_eq_mul_right hsz hlen, fun e1 => ?_, fun i x hx => ?_⟩
  · subst e1
    rcases h.row with ⟨_, e2, _⟩ | ⟨_, _, e2, _⟩
    · exact e2
    · cases e2
  · cases oa with
    | none =>
      rcases h.row with ⟨_, e2, _⟩ | ⟨_, _, e2, _⟩
      · subst e2
        have : l = [] := List.eq_nil_of_length_eq_zero (by have := Nat.eq_of_mul_eq_mul_right hsz hlen; omega)
        subst this
        simp at hx
      · cases e2
    | some a =>
      refine ⟨⟨a.add (i * sz), by simp [elemA], fun j v hv => ?_⟩⟩
      rw [hcell_add]
      exact h.cell _ _ (flatMap_get hE l i x hx j v hv)

/-! ### append -/
/-- What 'append' must know of the element's type. -/
structure ElemT (P : Program) (t e : TypeId) (sz bytes : Nat) : Prop where
  under : P.underlying t = some (.slice e)
  info : ∃ i z, P.info? e = some i ∧ i.zero = some z ∧ i.size = sz ∧ i.bytes = bytes ∧ z.cells.size = sz
  pos : 0 < sz
def elemTB (P : Program) (t e : TypeId) (sz bytes : Nat) : Bool :=
  (match P.underlying t with
    | some (.slice e') => e' == e
    | _ => false) && decide (0 < sz) && (match P.info? e with
    | some i => match i.zero with
      | some z => i.size == sz && i.bytes == bytes && z.cells.size == sz
      | none => false
    | none => false)
theorem ElemT.of {P : Program} {t e : TypeId} {sz bytes : Nat} (h : elemTB P t e sz bytes = true) : ElemT P t e sz bytes := by
  unfold elemTB at h
  simp only [Bool.and_eq_true, decide_eq_true_eq] at h
  obtain ⟨⟨h1, h2⟩, h3⟩ := h
  split at h1
  · split at h3
    · split at h3
      · rename_i _ e' he _ i hi _ z hz
        simp only [Bool.and_eq_true, beq_iff_eq] at h1 h3
        exact ⟨by rw [he, h1], ⟨i, z, hi, hz, h3.1.1, h3.1.2, h3.2⟩, h2⟩
      · cases h3
    · cases h3
  · cases h1
theorem grown_frame {H : PHeap} {w w' : World} {row : Option Nat} (hs : Sees H w) (hg : w.grownBy w' row) (hrow : ∀ k, row = some k → H k ≠ none) {g : Nat} {o : Obj} (hgo : w'.heap[g]? = some o) (hnew : w.heap.size ≤ g) (hr : row = none) :
    Nx H (H.upd g o) w w' := by
  subst hr
  refine ⟨hg.os, hg.tape, hg.output, hg.size, fun k hk _ => hg.block k hk (by simp), fun k hk => ?_, fun k o' hk => ?_⟩
  · unfold PHeap.upd at hk
    split at hk
    · rename_i e; right; omega
    · exact .inl hk
  · unfold PHeap.upd at hk
    split at hk
    · rename_i e; cases hk; rw [e]; exact hgo
    · have hkl : k < w.heap.size := by
        have := hs k o' hk
        exact (Array.getElem?_eq_some_iff.1 this).1
      rw [hg.block k hkl (by simp)]
      exact hs k o' hk
theorem sees_lt {H : PHeap} {w : World} (hs : Sees H w) {k : Nat} {o : Obj} (h : H k = some o) : k < w.heap.size := (Array.getElem?_eq_some_iff.1 (hs k o h)).1
theorem sees_none {H : PHeap} {w : World} (hs : Sees H w) {k : Nat} (h : w.heap.size ≤ k) : H k = none := by
  cases hk : H k with
  | none => rfl
  | some o => have := sees_lt hs hk; omega
theorem upd_eq (H : PHeap) (b : Nat) (o : Obj) : H.upd b o b = some o := by simp [PHeap.upd]
theorem upd_ne (H : PHeap) {b k : Nat} (o : Obj) (h : k ≠ b) : H.upd b o k = H k := by simp [PHeap.upd, h]
theorem setRow_nx {H : PHeap} {w : World} (hs : Sees H w) {g : Nat} {cur : Array Value} {e : TypeId} {fz : Nat × Nat} (hg : H g = some (.cells cur e fz)) (c : Array Value) :
    Nx H (H.upd g (.cells c e fz)) w (w.setRow g c) := by
  have hgl := sees_lt hs hg
  have hgw := hs g _ hg
  have get : ∀ k, (w.setRow g c).heap[k]? = if g = k then some (.cells c e fz) else w.heap[k]? := by
    intro k
    unfold World.setRow
    simp only [Array.getElem?_modify]
    split
    · rename_i e1; subst e1; rw [hgw]; rfl
    · rfl
  refine ⟨rfl, rfl, rfl, by simp [World.setRow], fun k hk hn => ?_, fun k hk => .inl fun hn => hk ?_, fun k o hk => ?_⟩
  · rw [get, if_neg (fun e1 => by rw [← e1, hg] at hn; cases hn)]
  · rw [upd_ne _ _ (fun e1 => by rw [e1, hg] at hn; cases hn)]; exact hn
  · rw [get]
    by_cases e1 : k = g
    · subst e1
      rw [upd_eq] at hk
      rw [if_pos rfl]
      exact hk
    · rw [upd_ne _ _ e1] at hk
      rw [if_neg (fun e2 => e1 e2.symm)]
      exact hs k o hk
theorem append_own {P : Program} {t ty e : TypeId} {sz bytes : Nat} (T : ElemT P t e sz bytes) {H : PHeap} {oa : Option Addr} {n c : Nat} {xs : List Value} (hown : Owns H e sz oa n c xs)
    {a : Addr} {m c2 : Nat} {news : List Value} (hl : news.length = m * sz) (hnews : ∀ (j : Nat) u, news[j]? = some u → hcell H (a.add j) = some u) (h1 : ∀ u ∈ news, u.oneCell' = true)
    (h63 : n + m ≤ maxLen) (hbytes : (n + m) * bytes ≤ 140737488355328) {K : Value → PHeap → Prop}
    (hK : ∀ oa' c' H', Owns H' e sz oa' (n + m) c' (xs ++ news) → Frame oa H H' → Fresh oa oa' H → (oa' = none → oa = none ∧ m = 0) → K (.slice oa' (n + m) c') H') :
    EvV P (Builtin.append_ #[t, t] ty #[.slice oa n c, .slice (some a) m c2]) H K := by
  obtain ⟨i, z, hi, hz, hsz, hby, hzs⟩ := T.info
  refine ⟨fun w hs => ?_⟩
  have hnw : ∀ (j : Nat) u, news[j]? = some u → w.cell? (a.add j) = some u := fun j u hj => hcell_world hs (hnews j u hj)
  have hlen : (xs ++ news).length = (n + m) * sz := by rw [List.length_append, hown.len, hl, Nat.add_mul]
  -- the arm that grows: a new row
  have fin : ∀ v' w', w'.ownsRow w.heap.size e sz v' (n + m) (xs ++ news) → w.grownBy w' none → (v' = .slice none 0 0 → oa = none ∧ m = 0) → ∃ H', Nx H H' w w' ∧ K v' H' := by
    intro v' w' ho hg hz'
    rcases ho.2 with ⟨rfl, e0⟩ | ⟨g, cap, cur, rfl, hbg, hgc, hnc, hcm, hcs, htk⟩
    · have hx : xs ++ news = [] := List.eq_nil_of_length_eq_zero (by rw [hlen, e0]; simp)
      obtain ⟨e1, e2⟩ := hz' rfl
      refine ⟨H, ⟨hg.os, hg.tape, hg.output, hg.size, fun k hk _ => hg.block k hk (by simp), fun k hk => .inl hk, fun k o hk => by rw [hg.block k (sees_lt hs hk) (by simp)]; exact hs k o hk⟩, ?_⟩
      have hq := hK none 0 H ⟨hlen, .inl ⟨rfl, e0, rfl⟩⟩ (fun k o hk _ => hk) (fun _ h => by cases h) (fun _ => ⟨e1, e2⟩)
      rwa [e0] at hq
    · refine ⟨H.upd g (.cells cur e (0, 0)), grown_frame hs hg (fun _ h => by cases h) hgc hbg rfl, hK _ _ _ ⟨hlen, .inr ⟨g, cur, rfl, upd_eq .., hnc, hcm, hcs, htk⟩⟩ (fun k o hk _ => ?_) (fun a' e => ?_) (fun e => by cases e)⟩
      · rw [upd_ne _ _ (fun e => by have := sees_lt hs hk; omega)]
        exact hk
      · cases e
        exact .inr (sees_none hs hbg)
  rcases hown.row with ⟨rfl, rfl, rfl⟩ | ⟨g, cur, rfl, hg, hnc, hcm, hcs, htk⟩
  · have hx : xs = [] := List.eq_nil_of_length_eq_zero (by rw [hown.len]; simp)
    subst hx
    obtain ⟨v', w', hrun, ho, hgr, hiff⟩ := run_append_own (P := P) w w.heap.size t ty e i z sz bytes T.under hi hz hsz hby hzs T.pos (.slice none 0 0) 0 [] (World.ownsRow_nil w _ e sz) a m c2 news hl hnw h1 h63 hbytes (Nat.le_refl _)
    obtain ⟨H', h2, h3⟩ := fin v' w' ho hgr (fun e => ⟨rfl, (hiff.1 e).2⟩)
    exact ⟨v', w', H', hrun, h2, h3⟩
  · have hgw := hs g _ hg
    by_cases hr : n + m ≤ c
    · have hfit : n * i.size + news.length ≤ cur.size := by rw [hsz, hl, hcs, ← Nat.add_mul]; exact Nat.mul_le_mul_right _ hr
      have hrun := run_append_room (P := P) w t ty e i T.under hi g n c cur hgw a m c2 news (by rw [hsz]; exact hl) hnw h1 hr hfit
      refine ⟨_, _, H.upd g (.cells (cur.toList.take (n * i.size) ++ news ++ cur.toList.drop (n * i.size + news.length)).toArray e (0, 0)), hrun, ?_, hK _ _ _ ⟨hlen, .inr ⟨g, _, rfl, upd_eq .., hr, hcm, ?_, ?_⟩⟩ (fun k o hk hne => by rw [upd_ne _ _ (hne _ rfl)]; exact hk) (fun a' e => .inl ⟨_, rfl, by cases e; rfl⟩) (fun e => by cases e)⟩
      · exact setRow_nx hs hg _
      · simp only [List.size_toArray, List.length_append, List.length_take, List.length_drop, Array.length_toList, hsz] at *
        omega
      · simp only [hsz] at *
        have e1 : (cur.toList.take (n * sz) ++ news).length = (n + m) * sz := by
          simp only [List.length_append, List.length_take, Array.length_toList, hl, hcs, Nat.add_mul] at *
          have : n * sz ≤ c * sz := Nat.mul_le_mul_right _ hnc
          omega
        rw [← e1, List.take_left, htk]
    · obtain ⟨v', w', hrun, ho, hgr⟩ := run_append_arg_grows (P := P) w t ty e i z sz bytes T.under hi hz hsz hby hzs T.pos ⟨g, 0, none⟩ n c xs hown.len (fun j u hj => hcell_world hs (hown.cell j u hj)) a m c2 news hl hnw (by omega) h63 hbytes
      obtain ⟨H', h2, h3⟩ := fin v' w' ho hgr (fun e => by
        rcases ho.2 with ⟨_, e0⟩ | ⟨g', _, _, e1, _⟩
        · omega
        · rw [e1] at e; cases e)
      exact ⟨v', w', H', hrun, h2, h3⟩
theorem flatMap_split {α : Type} {E : α → List Value} {sz : Nat} (hE : ∀ x, (E x).length = sz) : ∀ (l : List α) (j : Nat) (u : Value), (l.flatMap E)[j]? = some u → ∃ i x r, l[i]? = some x ∧ (E x)[r]? = some u ∧ j = i * sz + r
  | [], j, u, h => by simp at h
  | y :: ys, j, u, h => by
    rw [List.flatMap_cons] at h
    by_cases hj : j < (E y).length
    · rw [List.getElem?_append_left hj] at h
      exact ⟨0, y, j, rfl, h, by simp⟩
    · rw [List.getElem?_append_right (by omega)] at h
      obtain ⟨i, x, r, h1, h2, h3⟩ := flatMap_split hE ys _ u h
      rw [hE] at h3 hj
      exact ⟨i + 1, x, r, h1, h2, by rw [Nat.add_mul]; omega⟩
theorem RdL.flat {α : Type} {H : PHeap} {E : α → List Value} {sz : Nat} (hE : ∀ x, (E x).length = sz) {a : Addr} {n : Nat} {l : List α} (h : RdL H E sz (some a) n l) : ∀ (j : Nat) u, (l.flatMap E)[j]? = some u → hcell H (a.add j) = some u := by
  intro j u hj
  obtain ⟨i, x, r, h1, h2, rfl⟩ := flatMap_split hE l j u hj
  obtain ⟨b, hb, hg⟩ := (h.get i x h1).out
  simp [elemA] at hb
  subst hb
  have := hg r u h2
  rwa [hcell_add] at this
/-- A slice that is read, behind one of the call's own. -/
theorem append_rd {P : Program} {t ty e : TypeId} {sz bytes : Nat} (T : ElemT P t e sz bytes) {H : PHeap} {oa : Option Addr} {n c : Nat} {α : Type} {E : α → List Value} (hE : ∀ x, (E x).length = sz) {l l2 : List α} (hown : OwnL H e E sz oa n c l)
    {a2 : Option Addr} {m c2 : Nat} (hrd : RdL H E sz a2 m l2) (h1 : ∀ x, ∀ u ∈ E x, u.oneCell' = true) (h63 : n + m ≤ maxLen) (hbytes : (n + m) * bytes ≤ 140737488355328) {K : Value → PHeap → Prop}
    (hK : ∀ oa' c' H', OwnL H' e E sz oa' (n + m) c' (l ++ l2) → Frame oa H H' → Fresh oa oa' H → K (.slice oa' (n + m) c') H') :
    EvV P (Builtin.append_ #[t, t] ty #[.slice oa n c, .slice a2 m c2]) H K := by
  cases a2 with
  | some a =>
    refine append_own T hown (news := l2.flatMap E) (by rw [length_flatMap hE, hrd.len]) (hrd.flat hE) (fun u hu => ?_) h63 hbytes fun oa' c' H' g1 g2 g3 _ => hK oa' c' H' (by simpa [OwnL, List.flatMap_append] using g1) g2 g3
    obtain ⟨x, _, hx⟩ := List.mem_flatMap.1 hu
    exact h1 x u hx
  | none =>
    have hm := hrd.pos rfl
    subst hm
    have hl2 : l2 = [] := List.eq_nil_of_length_eq_zero hrd.len
    subst hl2
    obtain ⟨i, z, hi, hz, hsz, hby, hzs⟩ := T.info
    refine ⟨fun w hs => ⟨.slice oa n c, w, H, ?_, Nx.refl hs, ?_⟩⟩
    · rcases hown.row with ⟨rfl, rfl, rfl⟩ | ⟨g, cur, rfl, _, hnc, _⟩
      · simp [Builtin.append_, run_underlying T.under, sizeOf, typeInfo, hi, Builtin.lenOf, Builtin.firstCells]
      · simp [Builtin.append_, run_underlying T.under, sizeOf, typeInfo, hi, Builtin.lenOf, Builtin.firstCells, hnc, storeCells]
    · have := hK oa c H (by simpa using hown) (fun _ _ h _ => h) (fun a' h => .inl ⟨a', h, rfl⟩)
      simpa using this
/-- One element more: the executor hands it over in a block of its own. -/
theorem append_one {P : Program} {t ty e : TypeId} {sz bytes : Nat} (T : ElemT P t e sz bytes) {H : PHeap} {oa : Option Addr} {n c : Nat} {k : Nat} (hk : H k = none) {tk : TypeId} {ca : Array Value}
    {α : Type} {E : α → List Value} {l : List α} {x : α} (hE : ∀ x, (E x).length = sz) (hown : OwnL H e E sz oa n c l) (hca : ca.toList = E x) (h1 : ∀ u ∈ E x, u.oneCell' = true)
    (h63 : n + 1 ≤ maxLen) (hbytes : (n + 1) * bytes ≤ 140737488355328) {K : Value → PHeap → Prop}
    (hK : ∀ oa' c' H', OwnL H' e E sz oa' (n + 1) c' (l ++ [x]) → Frame oa H H' → Fresh oa oa' H → oa' ≠ none → K (.slice oa' (n + 1) c') H') :
    EvV P (Builtin.append_ #[t, t] ty #[.slice oa n c, .slice (some ⟨k, 0, none⟩) 1 1]) (H.upd k (.cells ca tk)) K := by
  have hb : ∀ a, oa = some a → a.block ≠ k := by
    intro a ha e1
    rcases hown.row with ⟨e2, _⟩ | ⟨g, cur, e2, hg, _⟩
    · rw [e2] at ha; cases ha
    · rw [e2] at ha; cases ha; simp only at e1; rw [e1, hk] at hg; cases hg
  refine append_own T (hown.mono fun a o ha ho => by rw [upd_ne _ _ (hb a ha)]; exact ho) (news := E x) (by rw [hE]; simp) (fun j u hj => ?_) h1 h63 hbytes ?_
  · unfold hcell
    rw [Addr.add_lit]
    simp [upd_eq]
    rw [← hca] at hj
    simpa using hj
  · intro oa' c' H' h2 h3 h4 h5
    refine hK oa' c' H' (by simpa [OwnL, List.flatMap_append] using h2) (fun k' o hk' hne => h3 k' o (by rw [upd_ne _ _ (fun e => by rw [e, hk] at hk'; cases hk')]; exact hk') hne) (fun a' ha' => ?_) (fun e => by have := (h5 e).2; omega)
    rcases h4 a' ha' with h | h
    · exact .inl h
    · right
      by_cases e1 : a'.block = k
      · rw [e1]; exact hk
      · rwa [upd_ne _ _ e1] at h
end Go.Vx

/- From a law's arguments, as the statement reads them, to what the executor reads. -/
namespace Go.Vx
open Go.RowKit Go.WideShapes Go.ChangeShapes

theorem exists_list {α : Type} {n : Nat} {p : Nat → α → Prop} (h : ∀ i, i < n → ∃ x, p i x) : ∃ l : List α, l.length = n ∧ ∀ (i : Nat) x, l[i]? = some x → p i x := by
  induction n with
  | zero => exact ⟨[], rfl, fun i x hx => by simp at hx⟩
  | succ n ih =>
    obtain ⟨l, hl, hp⟩ := ih fun i hi => h i (by omega)
    obtain ⟨x, hx⟩ := h n (by omega)
    refine ⟨l ++ [x], by simp [hl], fun i y hy => ?_⟩
    by_cases hi : i < l.length
    · rw [List.getElem?_append_left hi] at hy; exact hp i y hy
    · have := (List.getElem?_eq_some_iff.1 hy).1
      simp at this
      have e : i = n := by omega
      subst e
      rw [List.getElem?_append_right (by omega), hl] at hy
      simp at hy
      rw [← hy]; exact hx
theorem wf64 {n : Int} (h : (Lit.int .i64 n).wf = true) : -9223372036854775808 ≤ n ∧ n ≤ 9223372036854775807 := by
  simpa [Lit.wf, IntKind.min, IntKind.max, IntKind.signed, IntKind.bits] using h
theorem wf8 {n : Int} (h : (Lit.int .u8 n).wf = true) : 0 ≤ n ∧ n ≤ 255 := by
  simpa [Lit.wf, IntKind.min, IntKind.max, IntKind.signed, IntKind.bits] using h
/-- A slice, and what its elements say. -/
structure Sl (α : Type) where
  oa : Option Addr
  n : Nat
  c : Nat
  l : List α
def Sl.E {α : Type} (s : Sl α) : List Value := [.slice s.oa s.n s.c]
section
variable {H : Type} {enc : TypeId × Value → H} {P : Program} {W : World}
/-- What is read at a type, is some a's cells. -/
structure Opens (enc : TypeId × Value → H) (P : Program) (W : World) (t : TypeId) {α : Type} (E : α → List Value) (ok : α → Prop) : Prop where
  out : ∀ (fuel : Nat) (cs : List Value) (x : DataW H × List MemPlace), DataW.trod enc P W 0 (fun _ => true) true fuel t cs = some x → ∃ a, cs = E a ∧ ok a
def intE (k : IntKind) (n : Int) : List Value := [.int k n]
def boolE (b : Bool) : List Value := [.bool b]
def strE (s : ByteArray) : List Value := [.string s]
theorem Opens.int {t : TypeId} {k : IntKind} (ht : P.underlying t = some (.int k)) : Opens enc P W t (intE k) (fun n => (Lit.int k n).wf = true) :=
  ⟨fun _ _ _ h => by obtain ⟨n, h1, _, h2⟩ := DataW.trod_int ht h; exact ⟨n, h1, h2⟩⟩
theorem Opens.bool {t : TypeId} (ht : P.underlying t = some .bool) : Opens enc P W t boolE (fun _ => True) :=
  ⟨fun _ _ _ h => by obtain ⟨n, h1, _⟩ := DataW.trod_bool ht h; exact ⟨n, h1, trivial⟩⟩
theorem Opens.str {t : TypeId} (ht : P.underlying t = some .string) : Opens enc P W t strE (fun s => s.size ≤ maxLen) :=
  ⟨fun _ _ _ h => by obtain ⟨n, h1, _, h2⟩ := DataW.trod_string ht h; exact ⟨n, h1, h2⟩⟩
theorem Opens.slice {t e : TypeId} (ht : P.underlying t = some (.slice e)) {α : Type} {E : α → List Value} {ok : α → Prop} (he : Opens enc P W e E ok) {sz : Nat} (hc : P.cellsOf e = sz) :
    Opens enc P W t Sl.E (fun s : Sl α => RdL (heapOf W) E sz s.oa s.n s.l ∧ (∀ x ∈ s.l, ok x) ∧ s.n ≤ s.c ∧ s.c ≤ maxLen) := by
  refine ⟨fun fuel cs x h => ?_⟩
  rcases DataW.trod_slice ht h with ⟨rfl, _⟩ | ⟨a, len, cap, elems, rest, n, _, rfl, rfl, hb, hl, hm, hlen, hel, _, _⟩
  · exact ⟨⟨none, 0, 0, []⟩, rfl, RdL.nil _ _ _, by simp, Nat.le_refl _, Nat.zero_le _⟩
  · have each : ∀ i, i < len → ∃ y, ok y ∧ ∀ (j : Nat) v, (E y)[j]? = some v → hcell (heapOf W) ((a.add (i * sz)).add j) = some v := by
      intro i hi
      have hy := hel i hi
      rw [List.getElem?_eq_getElem (by omega), Option.bind_eq_some_iff] at hy
      obtain ⟨cs, h1, h2⟩ := hy
      obtain ⟨y, rfl, hok⟩ := he.out _ _ _ h2
      obtain ⟨_, h3, h4⟩ := World.cells?_some h1
      rw [hc] at h3 h4
      refine ⟨y, hok, fun j v hj => ?_⟩
      have := h4 j (by have := (List.getElem?_eq_some_iff.1 hj).1; omega)
      rw [hj] at this
      exact this
    obtain ⟨l, hll, hp⟩ := exists_list each
    refine ⟨⟨some a, len, cap, l⟩, rfl, ⟨hll, (fun e => by cases e), fun i y hy => ⟨⟨_, rfl, ?_⟩⟩⟩, fun y hy => ?_, hl, hm⟩
    · exact (hp i y hy).2
    · obtain ⟨i, hi⟩ := List.getElem?_of_mem hy
      exact (hp i y hi).1
/-- Fields one behind the other. -/
def pairE {α β : Type} (A : α → List Value) (B : β → List Value) (x : α × β) : List Value := A x.1 ++ B x.2
def FieldsAt (P : Program) : List Field → Nat → Bool
  | [], _ => true
  | f :: fs, off => f.offset == off && FieldsAt P fs (off + P.cellsOf f.type)
/-- What is read at a list of fields. -/
structure OpensF (enc : TypeId × Value → H) (P : Program) (W : World) (fs : List Field) {α : Type} (E : α → List Value) (ok : α → Prop) : Prop where
  out : ∀ (fuel off : Nat) (cs : List Value), (∀ f ∈ fs, ∃ x, DataW.trod enc P W 0 (fun _ => true) true fuel f.type ((cs.drop f.offset).take (P.cellsOf f.type)) = some x) → FieldsAt P fs off = true →
    cs.length = off + (fs.map fun f => P.cellsOf f.type).sum → ∃ a, cs.drop off = E a ∧ ok a
theorem OpensF.one {f : Field} {α : Type} {A : α → List Value} {okA : α → Prop} (h : Opens enc P W f.type A okA) : OpensF enc P W [f] A okA := by
  refine ⟨fun fuel off cs hx hat hl => ?_⟩
  obtain ⟨x, hx⟩ := hx f (by simp)
  simp [FieldsAt] at hat hl
  rw [hat, List.take_of_length_le (by rw [List.length_drop]; omega)] at hx
  exact h.out _ _ _ hx
theorem OpensF.cons {f g : Field} {fs : List Field} {α β : Type} {A : α → List Value} {okA : α → Prop} {B : β → List Value} {okB : β → Prop} (h : Opens enc P W f.type A okA) (hr : OpensF enc P W (g :: fs) B okB) :
    OpensF enc P W (f :: g :: fs) (pairE A B) (fun x => okA x.1 ∧ okB x.2) := by
  refine ⟨fun fuel off cs hx hat hl => ?_⟩
  obtain ⟨x, hx1⟩ := hx f (by simp)
  rw [FieldsAt, Bool.and_eq_true] at hat
  have ho : f.offset = off := by simpa using hat.1
  rw [ho] at hx1
  obtain ⟨a, e1, h1⟩ := h.out _ _ _ hx1
  obtain ⟨b, e2, h2⟩ := hr.out fuel _ cs (fun f' hf' => hx f' (List.mem_cons_of_mem _ hf')) hat.2 (by rw [hl]; simp [Nat.add_assoc])
  refine ⟨(a, b), ?_, h1, h2⟩
  unfold pairE
  rw [← e1, ← e2, ← List.drop_drop, List.take_append_drop]
theorem Opens.struct {t : TypeId} {fs : Array Field} (ht : P.underlying t = some (.struct fs)) {α : Type} {E : α → List Value} {ok : α → Prop} (h : OpensF enc P W fs.toList E ok) (hat : FieldsAt P fs.toList 0 = true)
    (hC : P.cellsOf t = (fs.toList.map fun f => P.cellsOf f.type).sum) : Opens enc P W t E ok := by
  refine ⟨fun fuel cs x hx => ?_⟩
  obtain ⟨xs, n, _, _, hl, hxl, hf⟩ := DataW.trod_struct ht hx
  obtain ⟨a, e, h1⟩ := h.out n 0 cs (fun f hf' => by
    obtain ⟨i, hi⟩ := List.getElem?_of_mem hf'
    have := hf i f (by simpa using hi)
    have hil : i < xs.length := by rw [hxl]; simpa using (List.getElem?_eq_some_iff.1 hi).1
    exact ⟨xs[i], by rw [this, List.getElem?_eq_getElem hil]⟩) hat (by rw [hl, hC, Nat.zero_add])
  exact ⟨a, by simpa using e, h1⟩
theorem Opens.weaken {t : TypeId} {α : Type} {E : α → List Value} {ok ok' : α → Prop} (h : Opens enc P W t E ok) (hk : ∀ a, ok a → ok' a) : Opens enc P W t E ok' :=
  ⟨fun f cs x hx => by obtain ⟨a, e, ha⟩ := h.out f cs x hx; exact ⟨a, e, hk a ha⟩⟩
theorem Opens.map {t : TypeId} {α β : Type} {E : α → List Value} {ok : α → Prop} {E' : β → List Value} {ok' : β → Prop} (h : Opens enc P W t E ok) (f : α → β) (he : ∀ a, E a = E' (f a)) (hk : ∀ a, ok a → ok' (f a)) : Opens enc P W t E' ok' :=
  ⟨fun fu cs x hx => by obtain ⟨a, e, ha⟩ := h.out fu cs x hx; exact ⟨f a, by rw [e, he], hk a ha⟩⟩
/-- An argument that is a struct. -/
theorem Opens.agg {t : TypeId} {α : Type} {E : α → List Value} {ok : α → Prop} (h : Opens enc P W t E ok) {fs : Array Field} (ht : P.underlying t = some (.struct fs)) {r : Reach} {b0 : Nat} {v : Value} {d : DataW H} {ps : List MemPlace}
    (hval : Value.okWide P W r b0 t v) (hd : DataW.Trod enc P W 0 (fun _ => true) true t v d ps) : ∃ a, v = .agg (E a).toArray ∧ ok a := by
  obtain ⟨cs, rfl, _⟩ := okWide_struct ht hval
  obtain ⟨fuel, hf⟩ := hd
  obtain ⟨a, e, h1⟩ := h.out _ _ _ hf
  exact ⟨a, by rw [← e]; simp [Value.cells], h1⟩
theorem Opens.oneS {t e : TypeId} {α : Type} {ok : Sl α → Prop} (h : Opens enc P W t Sl.E ok) (ht : P.underlying t = some (.slice e)) {r : Reach} {b0 : Nat} {v : Value} {d : DataW H} {ps : List MemPlace}
    (hval : Value.okWide P W r b0 t v) (hd : DataW.Trod enc P W 0 (fun _ => true) true t v d ps) : ∃ a : Sl α, v = .slice a.oa a.n a.c ∧ ok a := by
  obtain ⟨a, n, c, rfl⟩ := okWide_slice ht hval
  obtain ⟨fuel, hf⟩ := hd
  obtain ⟨s, e, h1⟩ := h.out _ _ _ hf
  simp [Value.cells, Sl.E] at e
  exact ⟨s, by simp [e], h1⟩
theorem Opens.oneStr {t : TypeId} {ok : ByteArray → Prop} (h : Opens enc P W t strE ok) (ht : P.underlying t = some .string) {r : Reach} {b0 : Nat} {v : Value} {d : DataW H} {ps : List MemPlace}
    (hval : Value.okWide P W r b0 t v) (hd : DataW.Trod enc P W 0 (fun _ => true) true t v d ps) : ∃ s, v = .string s ∧ ok s := by
  obtain ⟨a, rfl⟩ := okWide_string ht hval
  obtain ⟨fuel, hf⟩ := hd
  obtain ⟨s, e, h1⟩ := h.out _ _ _ hf
  simp [Value.cells, strE] at e
  exact ⟨s, by simp [e], h1⟩
theorem Opens.oneInt {t : TypeId} {k : IntKind} {ok : Int → Prop} (h : Opens enc P W t (intE k) ok) (ht : P.underlying t = some (.int k)) {r : Reach} {b0 : Nat} {v : Value} {d : DataW H} {ps : List MemPlace}
    (hval : Value.okWide P W r b0 t v) (hd : DataW.Trod enc P W 0 (fun _ => true) true t v d ps) : ∃ n, v = .int k n ∧ ok n := by
  obtain ⟨a, rfl⟩ := okWide_int ht hval
  obtain ⟨fuel, hf⟩ := hd
  obtain ⟨s, e, h1⟩ := h.out _ _ _ hf
  simp [Value.cells, intE] at e
  exact ⟨s, by simp [e], h1⟩
theorem Opens.oneBool {t : TypeId} {ok : Bool → Prop} (h : Opens enc P W t boolE ok) (ht : P.underlying t = some .bool) {r : Reach} {b0 : Nat} {v : Value} {d : DataW H} {ps : List MemPlace}
    (hval : Value.okWide P W r b0 t v) (hd : DataW.Trod enc P W 0 (fun _ => true) true t v d ps) : ∃ n, v = .bool n ∧ ok n := by
  obtain ⟨a, rfl⟩ := okWide_bool ht hval
  obtain ⟨fuel, hf⟩ := hd
  obtain ⟨s, e, h1⟩ := h.out _ _ _ hf
  simp [Value.cells, boolE] at e
  exact ⟨s, by simp [e], h1⟩
end
end Go.Vx

/- The executor's use: variables in memory, elements that are written, new slices. -/
namespace Go.Vx

/-! ### A variable in memory -/
/-- The block b holds a variable of type t, whose cells these are. -/
def Bx (H : PHeap) (b : Nat) (t : TypeId) (l : List Value) : Prop := H b = some (.cells l.toArray t (0, 0))
theorem Bx.new (H : PHeap) (b : Nat) (t : TypeId) (l : List Value) : Bx (H.upd b (.cells l.toArray t (0, 0))) b t l := upd_eq ..
theorem Bx.upd {H : PHeap} {b k : Nat} {t : TypeId} {l : List Value} (h : Bx H b t l) (o : Obj) (hn : H k = none) : Bx (H.upd k o) b t l := by
  unfold Bx at *
  rw [upd_ne _ _ (fun e => by rw [← e, h] at hn; cases hn)]; exact h
theorem Bx.upd_ne {H : PHeap} {b k : Nat} {t : TypeId} {l : List Value} (h : Bx H b t l) (o : Obj) (hn : b ≠ k) : Bx (H.upd k o) b t l := by
  unfold Bx at *
  rw [Go.Vx.upd_ne _ _ hn]; exact h
theorem Bx.frame {H H' : PHeap} {b : Nat} {t : TypeId} {l : List Value} {oa : Option Addr} (h : Bx H b t l) (hf : Frame oa H H') (hn : ∀ a, oa = some a → b ≠ a.block) : Bx H' b t l := hf _ _ h hn
theorem Bx.sub {H H' : PHeap} {b : Nat} {t : TypeId} {l : List Value} (h : Bx H b t l) (hs : Sub H H') : Bx H' b t l := hs.le _ _ h
theorem Bx.reads {H : PHeap} {b : Nat} {t : TypeId} {l : List Value} (h : Bx H b t l) : Reads H (at0 b) l := by
  refine ⟨⟨_, rfl, fun i v hv => ?_⟩⟩
  unfold Bx at h
  simp only [Addr.add_lit, hcell, h]
  simpa using hv
theorem Bx.readsAt {H : PHeap} {b : Nat} {t : TypeId} {l l2 : List Value} (h : Bx H b t l) (off : Nat) (hl : ∀ (i : Nat) v, l2[i]? = some v → l[off + i]? = some v) : Reads H (fldA (at0 b) off) l2 := by
  refine ⟨⟨_, rfl, fun i v hv => ?_⟩⟩
  unfold Bx at h
  rw [hcell_add]
  simp only [Addr.add_lit, hcell, h]
  simpa using hl i v hv
theorem Bx.writes {H : PHeap} {b : Nat} {t : TypeId} {l : List Value} (h : Bx H b t l) (l2 : List Value) (hl : l2.length = l.length) : Writes H (H.upd b (.cells l2.toArray t (0, 0))) (at0 b) l2 := by
  refine ⟨⟨⟨b, 0, none⟩, l.toArray, t, 0, 0, rfl, rfl, h, by simp [hl], fun i _ => by omega, ?_⟩⟩
  congr 1
  simp [hl]
theorem Bx.sub_of {H H' : PHeap} {b : Nat} {o : Obj} (hs : Sub H H') (hn : H b = none) : Sub H (H'.upd b o) :=
  ⟨fun k o' hk => by rw [Go.Vx.upd_ne _ _ (fun e => by rw [e, hn] at hk; cases hk)]; exact hs.le k o' hk⟩

theorem Bx.rd {α : Type} {H : PHeap} {b : Nat} {t : TypeId} {E : α → List Value} {sz : Nat} (hE : ∀ x, (E x).length = sz) {l : List α} (h : Bx H b t (l.flatMap E)) : RdL H E sz (at0 b) l.length l := by
  refine ⟨rfl, (fun e => by cases e), fun i x hx => ?_⟩
  have := h.readsAt (i * sz) (l2 := E x) fun j v hv => flatMap_get hE l i x hx j v hv
  simpa [elemA, fldA] using this

/-! ### An element is written -/
theorem list_over {α : Type} : ∀ (l : List α) (i : Nat) (E : α → List Value) (sz : Nat) (x : α), (∀ x, (E x).length = sz) → i < l.length →
    (l.flatMap E).take (i * sz) ++ E x ++ (l.flatMap E).drop (i * sz + sz) = (l.set i x).flatMap E
  | y :: ys, 0, E, sz, x, hE, _ => by
    simp only [Nat.zero_mul, List.take_zero, List.nil_append, Nat.zero_add, List.flatMap_cons, List.set_cons_zero]
    rw [List.drop_left' (hE y)]
  | y :: ys, i + 1, E, sz, x, hE, hi => by
    simp only [List.flatMap_cons, List.set_cons_succ]
    have h := list_over ys i E sz x hE (by simpa using hi)
    rw [← h, Nat.add_mul, Nat.one_mul, Nat.add_comm (i * sz) sz, List.take_append, List.drop_append, hE]
    have e1 : (E y).take (sz + i * sz) = E y := List.take_of_length_le (by rw [hE]; omega)
    have e2 : (E y).drop (sz + i * sz + sz) = [] := List.drop_of_length_le (by rw [hE]; omega)
    rw [e1, e2, show sz + i * sz - sz = i * sz by omega, show sz + i * sz + sz - sz = i * sz + sz by omega]
    rw [Nat.add_comm sz (i * sz)]
    simp only [List.append_assoc, List.nil_append]
  | [], i, _, _, _, _, hi => by simp at hi
theorem Owns.set {α : Type} {H : PHeap} {e : TypeId} {E : α → List Value} {sz : Nat} (hE : ∀ x, (E x).length = sz) {oa : Option Addr} {n c : Nat} {l : List α} (h : OwnL H e E sz oa n c l) (hsz : 0 < sz) {i : Int} (h0 : 0 ≤ i) (hi : i < n) (x : α) :
    ∃ H', Writes H H' (elemA oa i sz) (E x) ∧ OwnL H' e E sz oa n c (l.set i.toNat x) ∧ Frame oa H H' := by
  have hlen := h.len
  rw [length_flatMap hE] at hlen
  have hll : l.length = n := Nat.eq_of_mul_eq_mul_right hsz hlen
  rcases h.row with ⟨_, e2, _⟩ | ⟨g, cur, rfl, hg, hnc, hcm, hcs, ht⟩
  · omega
  · have hin : i.toNat < n := by omega
    have hb : i.toNat * sz + sz ≤ n * sz := by rw [← Nat.succ_mul]; exact Nat.mul_le_mul_right _ hin
    have hb2 : n * sz ≤ c * sz := Nat.mul_le_mul_right _ hnc
    have hcur : cur.toList = l.flatMap E ++ cur.toList.drop (n * sz) := by rw [← ht, List.take_append_drop]
    have hfl : (l.flatMap E).length = n * sz := h.len
    have key : cur.toList.take (i.toNat * sz) ++ E x ++ cur.toList.drop (i.toNat * sz + (E x).length) = (l.set i.toNat x).flatMap E ++ cur.toList.drop (n * sz) := by
      rw [hE, ← list_over l i.toNat E sz x hE (by omega)]
      conv => lhs; rw [hcur]
      rw [List.take_append_of_le_length (by omega), List.drop_append_of_le_length (by omega)]
      simp [List.append_assoc]
    refine ⟨H.upd g (.cells ((l.set i.toNat x).flatMap E ++ cur.toList.drop (n * sz)).toArray e (0, 0)), ⟨⟨⟨g, i.toNat * sz, none⟩, cur, e, 0, 0, ?_, rfl, hg, by simp only [hE]; omega, fun _ _ => by omega, by simp only [key]⟩⟩, ⟨?_, .inr ⟨g, _, rfl, upd_eq .., hnc, hcm, ?_, ?_⟩⟩, fun k o hk hne => ?_⟩
    · simp [elemA, Addr.add_lit]
    · rw [length_flatMap hE, List.length_set, hll]
    · simp only [List.size_toArray, List.length_append, length_flatMap hE, List.length_set, hll, List.length_drop, Array.length_toList, hcs]
      omega
    · rw [List.take_left' (by rw [length_flatMap hE, List.length_set, hll])]
    · rw [Go.Vx.upd_ne _ _ (hne _ rfl)]; exact hk

theorem part_list {α : Type} {p A old B q l2 : List α} (hl : old.length = l2.length) :
    (p ++ (A ++ old ++ B) ++ q).take (p.length + A.length) = p ++ A ∧ (p ++ (A ++ old ++ B) ++ q).drop (p.length + A.length + l2.length) = B ++ q ∧
    (p ++ (A ++ old ++ B) ++ q).take p.length = p ∧ (p ++ (A ++ old ++ B) ++ q).drop (p.length + (A ++ l2 ++ B).length) = q := by
  have h1 : p ++ (A ++ old ++ B) ++ q = (p ++ A) ++ (old ++ (B ++ q)) := by simp
  have h2 : p ++ (A ++ old ++ B) ++ q = (p ++ A ++ old) ++ (B ++ q) := by simp
  have h3 : p ++ (A ++ old ++ B) ++ q = p ++ ((A ++ old ++ B) ++ q) := by simp
  have h4 : p ++ (A ++ old ++ B) ++ q = (p ++ (A ++ old ++ B)) ++ q := rfl
  refine ⟨?_, ?_, ?_, ?_⟩
  · rw [h1, List.take_left' (by simp)]
  · rw [h2, List.drop_left' (by simp only [List.length_append, hl])]
  · rw [h3, List.take_left' rfl]
  · rw [h4, List.drop_left' (by simp only [List.length_append, hl])]
/-- A part of an element is written. -/
theorem Writes.part {H H' : PHeap} {oa : Option Addr} {A l2 B old : List Value} (hw : Writes H H' oa (A ++ l2 ++ B)) (hrd : Reads H oa (A ++ old ++ B)) (hl : old.length = l2.length) : Writes H H' (fldA oa A.length) l2 := by
  obtain ⟨a, c, e, lo, hi, rfl, hsp, hH, hfit, hfz, rfl⟩ := hw.out
  obtain ⟨a', ha', hg⟩ := hrd.out
  cases ha'
  obtain ⟨blk, off, sp⟩ := a
  simp only at hsp hH hfit hfz hg
  subst hsp
  have hll : (A ++ l2 ++ B).length = A.length + l2.length + B.length := by simp only [List.length_append]
  have hlo : (A ++ old ++ B).length = A.length + l2.length + B.length := by simp only [List.length_append, hl]
  rw [hll] at hfit hfz
  have hc : (c.toList.drop off).take (A ++ old ++ B).length = A ++ old ++ B := by
    refine List.ext_getElem? fun i => ?_
    rw [List.getElem?_take]
    split
    · rename_i hi
      have h1 := hg i _ (List.getElem?_eq_getElem hi)
      rw [List.getElem?_eq_getElem hi, ← h1, Addr.add_lit, hcell, hH]
      simp
    · rw [List.getElem?_eq_none (by omega)]
  obtain ⟨p, q, hp, hcq⟩ : ∃ p q, p.length = off ∧ c.toList = p ++ (A ++ old ++ B) ++ q :=
    ⟨c.toList.take off, (c.toList.drop off).drop (A ++ old ++ B).length, by rw [List.length_take, Array.length_toList]; omega, by
      conv => lhs; rw [← List.take_append_drop off c.toList, ← List.take_append_drop (A ++ old ++ B).length (c.toList.drop off), hc]
      simp only [List.append_assoc]⟩
  obtain ⟨g1, g2, g3, g4⟩ := part_list (p := p) (A := A) (B := B) (q := q) hl
  refine ⟨⟨⟨blk, off + A.length, none⟩, c, e, lo, hi, by simp [fldA, Addr.add_lit], rfl, hH, by simp only; omega, fun i hi' => ?_, ?_⟩⟩
  · have := hfz (A.length + i) (by omega)
    simp only at this ⊢
    omega
  · simp only [hcq, ← hp, g1, g2, g3, g4]
    simp [List.append_assoc]
theorem Reads.frame {H H' : PHeap} {oa ob : Option Addr} {l : List Value} (h : Reads H oa l) (hf : Frame ob H H') (hn : ∀ a b, oa = some a → ob = some b → a.block ≠ b.block) : Reads H' oa l := by
  obtain ⟨a, rfl, hg⟩ := h.out
  refine ⟨⟨a, rfl, fun i v hv => hcell_mono (fun o ho => hf _ o ho fun b hb => ?_) (hg i v hv)⟩⟩
  have := hn a b rfl hb
  unfold Addr.add
  split <;> simpa using this
theorem RdL.frame {α : Type} {H H' : PHeap} {E : α → List Value} {sz : Nat} {oa ob : Option Addr} {n : Nat} {l : List α} (h : RdL H E sz oa n l) (hf : Frame ob H H') (hn : ∀ a b, oa = some a → ob = some b → a.block ≠ b.block) : RdL H' E sz oa n l := by
  refine ⟨h.len, h.pos, fun i x hx => (h.get i x hx).frame hf fun a b ha hb => ?_⟩
  cases oa with
  | none => simp [elemA] at ha
  | some a0 =>
    simp [elemA] at ha
    subst ha
    have := hn a0 b rfl hb
    unfold Addr.add
    split <;> simpa using this

/-! ### A new slice -/
theorem makeSlice_own {P : Program} {t e : TypeId} {sz bytes : Nat} (T : ElemT P t e sz bytes) {H : PHeap} {α : Type} {E : α → List Value} {Z : α} {n : Nat} {k1 k2 : IntKind} (hZ : ∀ i z, P.info? e = some i → i.zero = some z → z.cells.toList = E Z) (hE : (E Z).length = sz)
    (hb : bytes * n ≤ 281474976710656) (h63 : n ≤ maxLen) {K : Value → PHeap → Prop} (hK : ∀ b H', H b = none → OwnL H' e E sz (at0 b) n n (List.replicate n Z) → Frame none H H' → K (.slice (at0 b) n n) H') :
    EvV P (Instr.makeSlice t (.int k1 (n : Int)) (.int k2 (n : Int))) H K := by
  obtain ⟨i, z, hi, hz, hsz, hby, hzs⟩ := T.info
  refine ⟨fun w hs => ?_⟩
  obtain ⟨w', hr, ho, hg⟩ := run_make_full (P := P) w w.heap.size t e i z sz T.under hi hz hsz k1 k2 n (by rw [hby]; exact hb) h63 (Nat.le_refl _)
  rcases ho.2 with ⟨e1, _⟩ | ⟨g, cap, cur, e1, hbg, hgc, hnc, hcm, hcs, htk⟩
  · cases e1
  · injection e1 with e1 _ e2
    injection e1 with e1
    injection e1 with e1
    subst e1 e2
    have hz' := hZ i z hi hz
    have hmade : (madeCells z.cells (n * sz)).toList = (List.replicate n Z).flatMap E := by
      have h1 := flatten_range z.cells.toList sz (by rw [Array.length_toList]; exact hzs) n
      have h2 : (List.replicate n Z).flatMap E = (List.replicate n z.cells.toList).flatten := by rw [List.flatMap_def, List.map_replicate, hz']
      rw [h2, ← h1]
      unfold madeCells
      rw [Array.toList_map, Array.toList_range]
      simp [hzs]
    refine ⟨_, w', _, hr, grown_frame hs hg (fun _ h => by cases h) hgc hbg rfl, hK _ _ (sees_none hs (Nat.le_refl _)) ⟨by rw [← hmade]; exact ho.1, .inr ⟨_, cur, rfl, upd_eq .., hnc, hcm, hcs, by rw [htk, hmade]⟩⟩ fun k o hk _ => ?_⟩
    rw [Go.Vx.upd_ne _ _ (fun e => by have := sees_lt hs hk; omega)]; exact hk
end Go.Vx

/- The executor's use: copy, clear, and 'append' where there is room. -/
namespace Go.Vx

/-- Cells that are written, or none. -/
def WritesN (H H' : PHeap) (oa : Option Addr) (l : List Value) : Prop := (l = [] ∧ H' = H) ∨ Writes H H' oa l
theorem run_writesN {P : Program} {H H' : PHeap} {oa : Option Addr} {l : List Value} {w : World} (h : WritesN H H' oa l) (hs : Sees H w) (h1 : ∀ v ∈ l, v.oneCell' = true) :
    ∃ w', Nx H H' w w' ∧ ∀ a, oa = some a → (storeCells a l).run P w = .ok () w' := by
  rcases h with ⟨rfl, rfl⟩ | h
  · exact ⟨w, Nx.refl hs, fun a _ => by simp [storeCells]⟩
  · obtain ⟨g, off, c, e, lo, hi, rfl, hg, hf, hl, hn⟩ := h.sound hs
    refine ⟨_, hn, fun a ha => ?_⟩
    cases ha
    have := run_storeCells_gen P g off e lo hi l 0 c w hg (by simpa using hf) (by simpa using hl) h1
    simpa [over] using this
/-- All is read ahead of the first write. -/
theorem copy_rw {P : Program} {t t2 ty e : TypeId} {sz bytes : Nat} (T : ElemT P t e sz bytes) {H H' : PHeap} {da sa : Option Addr} {dl dc sl sc n : Nat} {cs : List Value} (hn' : n = min sl dl) (hl : cs.length = n * sz)
    (hsrc : ∀ a, sa = some a → ∀ (j : Nat) v, cs[j]? = some v → hcell H (a.add j) = some v) (hs0 : sa = none → n = 0) (hw : WritesN H H' da cs) (h1 : ∀ v ∈ cs, v.oneCell' = true) {K : Value → PHeap → Prop} (hK : K (.int .i64 n) H') :
    EvV P (Builtin.copy_ #[t, t2] ty #[.slice da dl dc, .slice sa sl sc]) H K := by
  have hn : n = Nat.min sl dl := hn'
  obtain ⟨i, z, hi, hz, hsz, hby, hzs⟩ := T.info
  refine ⟨fun w hs => ?_⟩
  have hfc : (Builtin.firstCells i.size n (.slice sa sl sc)).run P w = .ok cs.toArray w := by
    cases sa with
    | some a => exact run_firstCells_some (P := P) w i.size n a sl sc cs (by rw [hsz]; exact hl) (fun j v hv => hcell_world hs (hsrc a rfl j v hv))
    | none =>
      have h0 := hs0 rfl
      have : cs = [] := List.eq_nil_of_length_eq_zero (by rw [hl, h0]; simp)
      subst this
      simp [Builtin.firstCells]
  rw [hn] at hfc hK
  cases da with
  | some a =>
    obtain ⟨w', hnx, hst⟩ := run_writesN (P := P) hw hs h1
    refine ⟨_, w', H', ?_, hnx, hK⟩
    simp [Builtin.copy_, run_underlying T.under, Builtin.lenOf, sizeOf, typeInfo, hi, hfc, hst a rfl, goInt]
  | none =>
    rcases hw with ⟨rfl, rfl⟩ | hw
    · refine ⟨_, w, H', ?_, Nx.refl hs, hK⟩
      simp [Builtin.copy_, run_underlying T.under, Builtin.lenOf, sizeOf, typeInfo, hi, hfc, goInt]
    · obtain ⟨a, _, _, _, _, ha, _⟩ := hw.out
      cases ha
/-- Where there is room, in place: whatever slice it is. -/
theorem append_room {P : Program} {t ty e : TypeId} {sz bytes : Nat} (T : ElemT P t e sz bytes) {H H' : PHeap} {a : Addr} {sa : Option Addr} {n c m sc : Nat} {cs : List Value} (hl : cs.length = m * sz) (hroom : n + m ≤ c)
    (hsrc : ∀ b, sa = some b → ∀ (j : Nat) v, cs[j]? = some v → hcell H (b.add j) = some v) (hs0 : sa = none → m = 0) (hw : WritesN H H' (some (a.add (n * sz))) cs) (h1 : ∀ v ∈ cs, v.oneCell' = true) {K : Value → PHeap → Prop} (hK : K (.slice (some a) (n + m) c) H') :
    EvV P (Builtin.append_ #[t, t] ty #[.slice (some a) n c, .slice sa m sc]) H K := by
  obtain ⟨i, z, hi, hz, hsz, hby, hzs⟩ := T.info
  refine ⟨fun w hs => ?_⟩
  have hfc : (Builtin.firstCells i.size m (.slice sa m sc)).run P w = .ok cs.toArray w := by
    cases sa with
    | some b => exact run_firstCells_some (P := P) w i.size m b m sc cs (by rw [hsz]; exact hl) (fun j v hv => hcell_world hs (hsrc b rfl j v hv))
    | none =>
      have h0 := hs0 rfl
      have : cs = [] := List.eq_nil_of_length_eq_zero (by rw [hl, h0]; simp)
      subst this
      simp [Builtin.firstCells]
  obtain ⟨w', hnx, hst⟩ := run_writesN (P := P) hw hs h1
  refine ⟨_, w', H', ?_, hnx, hK⟩
  have := hst _ rfl
  rw [← hsz] at this
  simp [Builtin.append_, run_underlying T.under, sizeOf, typeInfo, hi, Builtin.lenOf, hroom, hfc, this]
theorem clear_rw {P : Program} {t ty e : TypeId} {sz bytes : Nat} (T : ElemT P t e sz bytes) {H H' : PHeap} {a : Option Addr} {n c : Nat} {α : Type} {E : α → List Value} {Z : α} (hZ : ∀ i z, P.info? e = some i → i.zero = some z → z.cells.toList = E Z) (h1 : ∀ v ∈ E Z, v.oneCell' = true)
    (hn : a = none → n = 0) (hw : WritesN H H' a ((List.replicate n Z).flatMap E)) {K : Value → PHeap → Prop} (hK : K (.tuple #[]) H') : EvV P (Builtin.clear_ #[t] ty #[.slice a n c]) H K := by
  obtain ⟨i, z, hi, hz, hsz, hby, hzs⟩ := T.info
  refine ⟨fun w hs => ?_⟩
  have hz' := hZ i z hi hz
  obtain ⟨w', hnx, hst⟩ := run_writesN (P := P) hw hs (fun v hv => by
    obtain ⟨x, hx, hv'⟩ := List.mem_flatMap.1 hv
    obtain ⟨_, hxe⟩ := List.mem_replicate.1 hx
    rw [hxe] at hv'
    exact h1 v hv')
  have hmade : (Builtin.zeroCells z.cells n).toList = (List.replicate n Z).flatMap E := by
    have g1 := flatten_range z.cells.toList sz (by rw [Array.length_toList]; exact hzs) n
    have g2 : (List.replicate n Z).flatMap E = (List.replicate n z.cells.toList).flatten := by rw [List.flatMap_def, List.map_replicate, hz']
    rw [g2, ← g1]
    unfold Builtin.zeroCells
    rw [Array.toList_map, Array.toList_range]
    simp [hzs]
  cases a with
  | none =>
    have h0 := hn rfl
    subst h0
    rcases hw with ⟨_, rfl⟩ | hw
    · refine ⟨_, w, H', ?_, Nx.refl hs, hK⟩
      simp [Builtin.clear_, run_underlying T.under]
    · obtain ⟨a, _, _, _, _, ha, _⟩ := hw.out
      cases ha
  | some a =>
    cases n with
    | zero =>
      rcases hw with ⟨_, rfl⟩ | hw
      · refine ⟨_, w, H', ?_, Nx.refl hs, hK⟩
        simp [Builtin.clear_, run_underlying T.under]
      · have hs2 := hst a rfl
        simp [storeCells] at hs2
        subst hs2
        refine ⟨_, w, H', ?_, hnx, hK⟩
        simp [Builtin.clear_, run_underlying T.under]
    | succ n =>
      refine ⟨_, w', H', ?_, hnx, hK⟩
      have := hst a rfl
      rw [← hmade] at this
      simp [Builtin.clear_, run_underlying T.under, zeroValue, typeInfo, hi, hz, this]
theorem zeroCells_list {P : Program} {e : TypeId} {sz : Nat} {α : Type} {E : α → List Value} {Z : α} (hZ : ∀ i z, P.info? e = some i → i.zero = some z → z.cells.toList = E Z) {i : TypeInfo} {z : Value} (hi : P.info? e = some i) (hz : i.zero = some z) (hzs : z.cells.size = sz) (n : Nat) :
    (Builtin.zeroCells z.cells n).toList = (List.replicate n Z).flatMap E := by
  have hz' := hZ i z hi hz
  have g1 := flatten_range z.cells.toList sz (by rw [Array.length_toList]; exact hzs) n
  have g2 : (List.replicate n Z).flatMap E = (List.replicate n z.cells.toList).flatten := by rw [List.flatMap_def, List.map_replicate, hz']
  rw [g2, ← g1]
  unfold Builtin.zeroCells
  rw [Array.toList_map, Array.toList_range]
  simp [hzs]
/-- 'append(s, make([]T, m)...)' where there is no room. -/
theorem append_zeros {P : Program} {t tn ty e : TypeId} {sz bytes : Nat} {kn kq : IntKind} (T : ElemT P t e sz bytes) (htn : P.underlying tn = some (.int kn)) {H : PHeap} {α : Type} {E : α → List Value} {Z : α} (hE : ∀ x, (E x).length = sz)
    (hZ : ∀ i z, P.info? e = some i → i.zero = some z → z.cells.toList = E Z) {oa : Option Addr} {n c m : Nat} {l : List α} (hrd : RdL H E sz oa n l) (h0 : 0 < m) (hg : c < n + m) (h63 : n + m ≤ maxLen) (hbytes : (n + m) * bytes ≤ 140737488355328) {K : Value → PHeap → Prop}
    (hK : ∀ b c' H', H b = none → OwnL H' e E sz (at0 b) (n + m) c' (l ++ List.replicate m Z) → Frame none H H' → K (.slice (at0 b) (n + m) c') H') : EvV P (Builtin.append_ #[t, tn] ty #[.slice oa n c, .int kq (m : Int)]) H K := by
  obtain ⟨i, z, hi, hz, hsz, hby, hzs⟩ := T.info
  refine ⟨fun w hs => ?_⟩
  have hold : (Builtin.firstCells i.size n (.slice oa n c)).run P w.drew = .ok (l.flatMap E).toArray w.drew := by
    cases oa with
    | some a => exact run_firstCells_some (P := P) w.drew i.size n a n c (l.flatMap E) (by rw [hsz, length_flatMap hE, hrd.len]) (fun j v hv => hcell_world (H := H) (w := w.drew) hs (hrd.flat hE j v hv))
    | none =>
      have h0 := hrd.pos rfl
      have hl : l = [] := List.eq_nil_of_length_eq_zero (by rw [hrd.len, h0])
      subst hl
      simp [Builtin.firstCells]
  have hml : n + m ≤ 9223372036854775807 := by simp only [maxLen] at h63; omega
  have hfit := growslice_fits (bytes := bytes) hg hbytes
  have hmb : m * bytes ≤ (n + m) * bytes := Nat.mul_le_mul_right _ (by omega)
  have hr := Lib.run_append_grow_zeros (P := P) w t tn ty e i z kq kn T.under htn hi hz oa n c (l.flatMap E) hold m h0 (by rw [hsz]; exact T.pos) hg (by omega) (by rw [hby]; omega) (by rw [hby]; exact hfit)
  have hge := grownCap_ge w (n + m) c e
  have hcm := grownCap_le_maxLen w (n + m) c e h63
  have hzm := zeroCells_list hZ hi hz hzs m
  refine ⟨_, _, H.upd w.heap.size (.cells ((l.flatMap E).toArray ++ Builtin.zeroCells z.cells m ++ Builtin.zeroCells z.cells (grownCap w (n + m) c e - (n + m))) e (0, 0)), hr, (Nx.drew hs).trans (Nx.alloc (w := w.drew) hs _), hK _ _ _ (sees_none hs (Nat.le_refl _)) ⟨?_, .inr ⟨_, _, rfl, upd_eq .., hge, hcm, ?_, ?_⟩⟩ fun k o hk _ => ?_⟩
  · rw [length_flatMap hE, List.length_append, List.length_replicate, hrd.len]
  · simp only [Array.size_append, List.size_toArray, size_zeroCells, hzs, length_flatMap hE, hrd.len, ← Nat.add_mul]
    congr 1
    omega
  · simp only [Array.toList_append, hzm]
    rw [← List.flatMap_append, List.take_left' (by rw [length_flatMap hE, List.length_append, List.length_replicate, hrd.len])]
  · rw [Go.Vx.upd_ne _ _ (fun e => by have := sees_lt hs hk; omega)]; exact hk
/-- Slices of two blocks do not overlap. -/
theorem overlaps_apart {P : Program} {f : FuncId} {fn : Func} {tS tR e : TypeId} {sz bytes : Nat} (T : ElemT P tS e sz bytes) (hf : P.funcs[f]? = some fn) (hname : (fn.name == "runtime.NumGoroutine") = false) (hb : fn.body.isNone = true) (hn : Extern.findNext fn = none)
    (he : Extern.find fn = some (Extern.SlicesOverlaps.overlaps #[tS, tS] #[tR])) {H : PHeap} {a b : Addr} {la ca lb cb : Nat} (hne : a.block ≠ b.block) {cA cB : Array Value} {tA tB : TypeId} (hA : H a.block = some (.cells cA tA (0, 0))) (hB : H b.block = some (.cells cB tB (0, 0)))
    (hB0 : cB.size ≠ 0) {K : Value → PHeap → Prop} (hK : K (.bool false) H) : ExtV P f #[.slice (some a) la ca, .slice (some b) lb cb] H K := by
  obtain ⟨i, z, hi, hz, hsz, hby, hzs⟩ := T.info
  refine ⟨fun w hs => ⟨_, w, H, ?_, Nx.refl hs, hK⟩⟩
  rw [run_callFunc_extern hf hname hb hn he, Lib.run_overlaps_apart (P := P) w tS tR e T.under sz (fun w => by simp [sizeOf, typeInfo, hi, hsz]) a b la ca lb cb hne tA tB cA.size cB.size (by simp [World.shape?, hs _ _ hA]) (by simp [World.shape?, hs _ _ hB]) hB0
    (by simp [World.frozen?, hs _ _ hA]) (by simp [World.frozen?, hs _ _ hA])]
  rfl
/-! ### A slice of the call's own, cell by cell -/
theorem Owns.put {H : PHeap} {e : TypeId} {sz : Nat} {oa : Option Addr} {n c : Nat} {xs ys : List Value} (h : Owns H e sz oa n c xs) {p : Nat} (hp : p * sz + ys.length ≤ n * sz) (hn : oa ≠ none) :
    ∃ H', Writes H H' (elemA oa (p : Int) sz) ys ∧ Owns H' e sz oa n c (xs.take (p * sz) ++ ys ++ xs.drop (p * sz + ys.length)) ∧ Frame oa H H' := by
  have hlen := h.len
  rcases h.row with ⟨e1, _⟩ | ⟨g, cur, rfl, hg, hnc, hcm, hcs, ht⟩
  · exact absurd e1 hn
  have hb2 : n * sz ≤ c * sz := Nat.mul_le_mul_right _ hnc
  have hcur : cur.toList = xs ++ cur.toList.drop (n * sz) := by rw [← ht, List.take_append_drop]
  have key : cur.toList.take (p * sz) ++ ys ++ cur.toList.drop (p * sz + ys.length) = (xs.take (p * sz) ++ ys ++ xs.drop (p * sz + ys.length)) ++ cur.toList.drop (n * sz) := by
    conv => lhs; rw [hcur]
    rw [List.take_append_of_le_length (by omega), List.drop_append_of_le_length (by omega)]
    simp only [List.append_assoc]
  have hl2 : (xs.take (p * sz) ++ ys ++ xs.drop (p * sz + ys.length)).length = n * sz := by
    simp only [List.length_append, List.length_take, List.length_drop, hlen]
    omega
  refine ⟨H.upd g (.cells ((xs.take (p * sz) ++ ys ++ xs.drop (p * sz + ys.length)) ++ cur.toList.drop (n * sz)).toArray e (0, 0)), ⟨⟨⟨g, p * sz, none⟩, cur, e, 0, 0, by simp [elemA, Addr.add_lit], rfl, hg, by simp only; omega, fun _ _ => by omega, by simp only [key]⟩⟩,
    ⟨hl2, .inr ⟨g, _, rfl, upd_eq .., hnc, hcm, ?_, ?_⟩⟩, fun k o hk hne => ?_⟩
  · simp only [List.size_toArray, List.length_append, hl2, List.length_drop, Array.length_toList, hcs] at *
    omega
  · rw [List.take_left' hl2]
  · rw [Go.Vx.upd_ne _ _ (hne _ rfl)]; exact hk
/-- The length rises into what is spare. -/
theorem Owns.extend {H : PHeap} {e : TypeId} {sz : Nat} {oa : Option Addr} {n c m : Nat} {xs : List Value} (h : Owns H e sz oa n c xs) (hm : n + m ≤ c) : ∃ g, g.length = m * sz ∧ Owns H e sz oa (n + m) c (xs ++ g) := by
  rcases h.row with ⟨rfl, rfl, rfl⟩ | ⟨g, cur, rfl, hg, hnc, hcm, hcs, ht⟩
  · have : m = 0 := by omega
    subst this
    exact ⟨[], by simp, by simpa using h⟩
  · have hb2 : (n + m) * sz ≤ c * sz := Nat.mul_le_mul_right _ hm
    rw [Nat.add_mul] at hb2
    refine ⟨(cur.toList.drop (n * sz)).take (m * sz), by rw [List.length_take, List.length_drop, Array.length_toList]; omega, ⟨?_, .inr ⟨g, cur, rfl, hg, hm, hcm, hcs, ?_⟩⟩⟩
    · rw [List.length_append, h.len, List.length_take, List.length_drop, Array.length_toList, Nat.add_mul]; omega
    · rw [Nat.add_mul, List.take_add, ht]
/-- The length falls. -/
theorem Owns.cut {H : PHeap} {e : TypeId} {sz : Nat} {oa : Option Addr} {n c m : Nat} {xs : List Value} (h : Owns H e sz oa n c xs) (hm : m ≤ n) : Owns H e sz oa m c (xs.take (m * sz)) := by
  have hb : m * sz ≤ n * sz := Nat.mul_le_mul_right _ hm
  refine ⟨by rw [List.length_take, h.len]; omega, ?_⟩
  rcases h.row with ⟨rfl, rfl, rfl⟩ | ⟨g, cur, rfl, hg, hnc, hcm, hcs, ht⟩
  · exact .inl ⟨rfl, by omega, rfl⟩
  · exact .inr ⟨g, cur, rfl, hg, by omega, hcm, hcs, by rw [← ht, List.take_take, Nat.min_eq_left hb]⟩
theorem slA_zero (a : Option Addr) (m sz : Nat) : slA a 0 m sz = a := by
  unfold slA
  split
  · rfl
  · cases a with
    | none => rfl
    | some a => simp [Addr.add]
theorem slA_pos {a : Option Addr} {l : Int} {m sz : Nat} (h : l ≠ m) : slA a l m sz = elemA a l sz := by
  unfold slA elemA
  rw [if_neg (fun e => h e.symm)]
end Go.Vx

/- The executor's use: closures that are called, texts and their order, and a proof that two places share. -/
namespace Go.Vx

/-! ### A function value -/
theorem CallY.fn {P : Program} {f : FuncId} {caps args : Array Value} {H : PHeap} {Q : Value → PHeap → Prop} (hg : goodF P f = true) (h : Triple P f (args ++ caps) H Q) : CallY P (.func (.func f) #[] caps) args H Q :=
  ⟨fun w hs => .inl ⟨f, args ++ caps, by simp [Deferred.ofValue, invoke, run_callFunc hg], h.out w hs⟩⟩
theorem CallV.fn {P : Program} {f : FuncId} {caps args : Array Value} {H : PHeap} {Q : Value → PHeap → Prop} (hg : goodF P f = true) (h : Triple P f (args ++ caps) H Q) : CallV P (.func (.func f) #[] caps) args H Q :=
  ⟨fun w hs => ⟨f, args ++ caps, by simp [Deferred.ofValue, invoke, run_callFunc hg], h.out w hs⟩⟩

/-! ### Texts -/
theorem toListB (s : ByteArray) : s.toList = s.data.toList := Lib.toList_data s
theorem eqS_iff {a b : ByteArray} : eqS a b = true ↔ a = b := by
  unfold eqS
  rw [toListB, toListB, beq_iff_eq]
  constructor
  · intro h
    cases a; cases b
    simp at h
    rw [h]
  · rintro rfl; rfl
theorem eqS_false {a b : ByteArray} : eqS a b = false ↔ a ≠ b := by
  rw [← Bool.not_eq_true, eqS_iff]
theorem bytesLess_nil : ∀ b : List UInt8, Op.bytesLess b [] = false
  | [] => rfl
  | _ :: _ => rfl
theorem bytesLess_irrefl : ∀ a : List UInt8, Op.bytesLess a a = false
  | [] => rfl
  | a :: x => by simp [Op.bytesLess, bytesLess_irrefl x]
theorem bytesLess_trans : ∀ {a b c : List UInt8}, Op.bytesLess a b = true → Op.bytesLess b c = true → Op.bytesLess a c = true
  | [], _, [], _, h => by rw [bytesLess_nil] at h; cases h
  | [], _, _ :: _, _, _ => rfl
  | _ :: _, [], _, h, _ => by rw [bytesLess_nil] at h; cases h
  | _ :: _, _ :: _, [], _, h => by rw [bytesLess_nil] at h; cases h
  | a :: x, b :: y, c :: z, h1, h2 => by
    simp only [Op.bytesLess, Bool.or_eq_true, Bool.and_eq_true, decide_eq_true_eq, beq_iff_eq] at *
    rcases h1 with h1 | ⟨rfl, h1⟩
    · rcases h2 with h2 | ⟨rfl, h2⟩
      · exact .inl (UInt8.lt_trans h1 h2)
      · exact .inl h1
    · rcases h2 with h2 | ⟨rfl, h2⟩
      · exact .inl h2
      · exact .inr ⟨rfl, bytesLess_trans h1 h2⟩
theorem bytesLess_total : ∀ {a b : List UInt8}, a ≠ b → Op.bytesLess a b = true ∨ Op.bytesLess b a = true
  | [], [], h => absurd rfl h
  | [], _ :: _, _ => .inl rfl
  | _ :: _, [], _ => .inr rfl
  | a :: x, b :: y, h => by
    simp only [Op.bytesLess, Bool.or_eq_true, Bool.and_eq_true, decide_eq_true_eq, beq_iff_eq]
    by_cases e : a = b
    · subst e
      rcases bytesLess_total (a := x) (b := y) (fun e => h (by rw [e])) with h1 | h1
      · exact .inl (.inr ⟨rfl, h1⟩)
      · exact .inr (.inr ⟨rfl, h1⟩)
    · rcases Nat.lt_or_gt_of_ne (fun e1 => e (UInt8.toNat.inj e1)) with h1 | h1
      · exact .inl (.inl h1)
      · exact .inr (.inl h1)
theorem lessS_irrefl (a : ByteArray) : lessS a a = false := bytesLess_irrefl _
theorem lessS_trans {a b c : ByteArray} (h1 : lessS a b = true) (h2 : lessS b c = true) : lessS a c = true := bytesLess_trans h1 h2
theorem lessS_total {a b : ByteArray} (h : a ≠ b) : lessS a b = true ∨ lessS b a = true := bytesLess_total (by
  rw [toListB, toListB]
  intro e
  exact h (by cases a; cases b; simp at e; rw [e]))
theorem lessS_asymm {a b : ByteArray} (h : lessS a b = true) : lessS b a = false := by
  cases h2 : lessS b a with
  | false => rfl
  | true => have := lessS_trans h h2; rw [lessS_irrefl] at this; cases this
/-- The order, as a loop over the bytes finds it. -/
theorem bytesLess_at : ∀ (a b : List UInt8) (i : Nat), a.take i = b.take i → i ≤ a.length → i ≤ b.length →
    Op.bytesLess a b = Op.bytesLess (a.drop i) (b.drop i)
  | a, b, 0, _, _, _ => rfl
  | x :: a, y :: b, i + 1, h, h1, h2 => by
    simp at h h1 h2
    simp only [Op.bytesLess, List.drop_succ_cons, h.1, UInt8.lt_irrefl, decide_false, Bool.false_or, BEq.rfl, Bool.true_and]
    exact bytesLess_at a b i h.2 h1 h2
  | [], _, _ + 1, _, h, _ => by simp at h
  | _ :: _, [], _ + 1, _, _, h => by simp at h
theorem size_toList (s : ByteArray) : s.toList.length = s.size := by rw [toListB, Array.length_toList]; rfl
theorem byteAt_get {s : ByteArray} {i : Nat} (h : i < s.size) : ∃ c, s.toList[i]? = some c ∧ byteAt s i = c.toNat := by
  have h2 : i < s.data.size := h
  refine ⟨s.data[i], by rw [toListB]; simp [h2], ?_⟩
  unfold byteAt
  rw [Int.toNat_natCast, Array.getElem?_eq_getElem h2]
  rfl
/-- Halfway. -/
theorem mid_of {i j : Int} (h0 : 0 ≤ i) (h1 : i ≤ j) (h2 : j ≤ 1000000) : IntKind.i64.wrap (shrI IntKind.u64 (IntKind.u64.wrap (IntKind.i64.wrap (i + j))) 1) = (i + j) / 2 := by
  rw [wrap64 (n := i + j) (by omega) (by omega)]
  have e1 : IntKind.u64.wrap (i + j) = i + j := by
    simp [IntKind.wrap, IntKind.bits, IntKind.signed]
    omega
  rw [e1]
  have e2 : shrI IntKind.u64 (i + j) 1 = (i + j) / 2 := by
    unfold shrI
    rw [Int.fdiv_eq_ediv_of_nonneg _ (by simp [IntKind.bits])]
    simp [IntKind.bits]
  rw [e2]
  exact wrap64 (by omega) (by omega)
/-- One proof for two places. -/
theorem twice {α β γ : Type} {T : α → β → γ → Prop} {C : α → β → γ → Prop} {G : Prop} (use : (∀ a b c, C a b c → T a b c) → G) (key : ∀ a b c, C a b c → T a b c) : G := use key

/-! ### Parts of slices -/
theorem RdL.take {α : Type} {H : PHeap} {E : α → List Value} {sz : Nat} {oa : Option Addr} {n : Nat} {l : List α} (h : RdL H E sz oa n l) {i : Nat} (hi : i ≤ n) : RdL H E sz oa i (l.take i) :=
  ⟨by rw [List.length_take, h.len]; omega, fun e => by have := h.pos e; omega, fun j y hy => h.get j y (by
    rw [List.getElem?_take] at hy
    split at hy
    · exact hy
    · cases hy)⟩
theorem RdL.drop {α : Type} {H : PHeap} {E : α → List Value} {sz : Nat} {oa : Option Addr} {n : Nat} {l : List α} (h : RdL H E sz oa n l) {i c : Nat} (hi : i ≤ n) (hc : n ≤ c) : RdL H E sz (slA oa i c sz) (n - i) (l.drop i) := by
  refine ⟨by rw [List.length_drop, h.len], fun e => ?_, fun j y hy => ?_⟩
  · cases oa with
    | none => have := h.pos rfl; omega
    | some a => unfold slA at e; split at e <;> simp at e
  · rw [List.getElem?_drop] at hy
    have hl := (List.getElem?_eq_some_iff.1 hy).1
    rw [h.len] at hl
    have := h.get (i + j) y hy
    rw [slA_pos (show (i : Int) ≠ c by omega)]
    cases oa with
    | none => have := h.pos rfl; omega
    | some a =>
      simp only [elemA, Option.map_some, Int.toNat_natCast, Addr.add_add] at this ⊢
      rwa [← Nat.add_mul]
/-- An empty slice that is not nil, in a block of its own. -/
theorem Owns.empty (H : PHeap) (k : Nat) (e : TypeId) (sz : Nat) : Owns (H.upd k (.cells #[] e (0, 0))) e sz (at0 k) 0 0 [] :=
  ⟨by simp, .inr ⟨k, #[], rfl, upd_eq .., Nat.le_refl _, Nat.zero_le _, by simp, by simp⟩⟩
theorem off_at0 {H : PHeap} {k : Nat} (h : H k = none) : Off H (at0 k) := fun a ha => by cases ha; exact h
theorem Owns.le {H : PHeap} {e : TypeId} {sz : Nat} {oa : Option Addr} {n c : Nat} {xs : List Value} (h : Owns H e sz oa n c xs) : n ≤ c := by
  rcases h.row with ⟨_, h1, h2⟩ | ⟨_, _, _, _, h1, _⟩ <;> omega
end Go.Vx

/- The executor's use: maps. -/
namespace Go.Vx
open Go.MapKept

theorem setBlock_nx {H : PHeap} {w : World} (hs : Sees H w) {b : Nat} {o : Obj} (hb : H b = some o) (o' : Obj) : Nx H (H.upd b o') w { w with heap := w.heap.setIfInBounds b o' } := by
  have hlt := sees_lt hs hb
  have get : ∀ k, (w.heap.setIfInBounds b o')[k]? = if b = k then some o' else w.heap[k]? := fun k => by
    rw [Array.getElem?_setIfInBounds]
    split
    · rename_i e; subst e; simp [hlt]
    · rfl
  refine ⟨rfl, rfl, rfl, by simp, fun k hk hn => ?_, fun k hk => .inl fun hn => hk ?_, fun k o hk => ?_⟩
  · show (w.heap.setIfInBounds b o')[k]? = _
    rw [get, if_neg (fun e1 => by rw [← e1, hb] at hn; cases hn)]
  · rw [upd_ne _ _ (fun e1 => by rw [e1, hb] at hn; cases hn)]; exact hn
  · show (w.heap.setIfInBounds b o')[k]? = _
    rw [get]
    by_cases e1 : k = b
    · subst e1
      rw [upd_eq] at hk
      rw [if_pos rfl]
      exact hk
    · rw [upd_ne _ _ e1] at hk
      rw [if_neg (fun e2 => e1 e2.symm)]
      exact hs k o hk

section
variable {κ ν : Type}
/-- How a map's keys are told. -/
structure MapT (P : Program) (t : TypeId) (kE : κ → Value) (z : Value) : Prop where
  out : ∃ kt et d, P.underlying t = some (.map kt et) ∧ P.underlying kt = some d ∧ (P.info? et).bind (·.zero) = some z ∧ (∀ k, IsKey d (kE k)) ∧ ∀ a b, kE a = kE b → a = b
/-- The block b holds a map of these keys and values, in the order in which they came. -/
structure Mp (H : PHeap) (b : Nat) (kE : κ → Value) (vE : ν → Value) (l : List (κ × ν)) : Prop where
  out : ∃ es clock, H b = some (.map es clock) ∧ es.toList.map (fun e => (e.key, e.val)) = l.map (fun x => (kE x.1, vE x.2)) ∧ Stamped es clock
theorem Mp.mono {H H' : PHeap} {b : Nat} {kE : κ → Value} {vE : ν → Value} {l : List (κ × ν)} (h : Mp H b kE vE l) (hs : ∀ o, H b = some o → H' b = some o) : Mp H' b kE vE l := by
  obtain ⟨es, c, h1, h2⟩ := h.out
  exact ⟨es, c, hs _ h1, h2⟩
theorem Mp.new (H : PHeap) (b : Nat) (kE : κ → Value) (vE : ν → Value) : Mp (H.upd b (.map #[] 0)) b kE vE [] := ⟨#[], 0, upd_eq .., rfl, stamped_empty 0⟩
theorem Mp.nodup {H : PHeap} {b : Nat} {kE : κ → Value} {vE : ν → Value} {l : List (κ × ν)} (h : Mp H b kE vE l) : (l.map (·.1)).Nodup := by
  obtain ⟨es, c, _, h2, h3⟩ := h.out
  have h4 := h3.2.2
  have e : es.toList.map (·.key) = (l.map (·.1)).map kE := by
    have := congrArg (List.map Prod.fst) h2
    simpa [List.map_map, Function.comp_def] using this
  rw [e] at h4
  exact List.Pairwise.of_map kE (fun a b hne e => hne (by rw [e])) h4
theorem makeMap_mp {P : Program} {t : TypeId} {H : PHeap} {K : Value → PHeap → Prop} (hK : ∀ b, H b = none → K (.map (some b)) (H.upd b (.map #[] 0))) : EvV P (Instr.makeMap t none) H K :=
  ⟨fun w hs => ⟨.map (some w.heap.size), w.alloc (.map #[] 0), _, rfl, Nx.alloc hs _, hK _ (sees_none hs (Nat.le_refl _))⟩⟩
variable {P : Program} {t : TypeId} {kE : κ → Value} {vE : ν → Value} {z : Value}
theorem nodup_at {α : Type} {l : List α} (hn : l.Nodup) {i j : Nat} {a : α} (h1 : l[i]? = some a) (h2 : l[j]? = some a) : i = j := by
  obtain ⟨g1, e1⟩ := List.getElem?_eq_some_iff.1 h1
  obtain ⟨g2, e2⟩ := List.getElem?_eq_some_iff.1 h2
  have hp := List.pairwise_iff_getElem.1 hn
  rcases Nat.lt_trichotomy i j with h | h | h
  · exact absurd (e1.trans e2.symm) (hp i j g1 g2 h)
  · exact h
  · exact absurd (e2.trans e1.symm) (hp j i g2 g1 h)
theorem enc_at {es : Array MapEntry} {l : List (κ × ν)} (he : es.toList.map (fun e => (e.key, e.val)) = l.map (fun x => (kE x.1, vE x.2))) (j : Nat) :
    (∀ e, es.toList[j]? = some e → ∃ x, l[j]? = some x ∧ e.key = kE x.1 ∧ e.val = vE x.2) ∧ (∀ x, l[j]? = some x → ∃ e, es.toList[j]? = some e ∧ e.key = kE x.1 ∧ e.val = vE x.2) := by
  have h := congrArg (fun l => l[j]?) he
  simp only [List.getElem?_map] at h
  constructor
  · intro e h1
    rw [h1] at h
    cases h2 : l[j]? with
    | none => rw [h2] at h; cases h
    | some x =>
      rw [h2] at h
      have := Option.some.inj h
      exact ⟨x, rfl, (Prod.mk.inj this).1, (Prod.mk.inj this).2⟩
  · intro x h1
    rw [h1] at h
    cases h2 : es.toList[j]? with
    | none => rw [h2] at h; cases h
    | some e =>
      rw [h2] at h
      have := Option.some.inj h
      exact ⟨e, rfl, (Prod.mk.inj this).1, (Prod.mk.inj this).2⟩
/-! ### A range over a map -/
/-- The block r is an iterator of the map in b, which has told these places. -/
structure It (H : PHeap) (r b : Nat) (kE : κ → Value) (vE : ν → Value) (l : List (κ × ν)) (js : List Nat) : Prop where
  out : ∃ es clock seen, H b = some (.map es clock) ∧ es.toList.map (fun e => (e.key, e.val)) = l.map (fun x => (kE x.1, vE x.2)) ∧ Stamped es clock ∧
    H r = some (.mapIter (some b) clock seen clock) ∧ seen.toList = js.filterMap fun j => (es.toList[j]?).map (·.born)
  nd : js.Nodup
  lt : ∀ j ∈ js, j < l.length
theorem It.mono {H H' : PHeap} {r b : Nat} {l : List (κ × ν)} {js : List Nat} (h : It H r b kE vE l js) (hr : ∀ o, H r = some o → H' r = some o) (hb : ∀ o, H b = some o → H' b = some o) : It H' r b kE vE l js := by
  obtain ⟨es, c, sn, h1, h2, h3, h4, h5⟩ := h.out
  exact ⟨⟨es, c, sn, hb _ h1, h2, h3, hr _ h4, h5⟩, h.nd, h.lt⟩
theorem It.mp {H : PHeap} {r b : Nat} {l : List (κ × ν)} {js : List Nat} (h : It H r b kE vE l js) : Mp H b kE vE l := by
  obtain ⟨es, c, sn, h1, h2, h3, h4, h5⟩ := h.out
  exact ⟨es, c, h1, h2, h3⟩
theorem map_range (T : MapT P t kE z) {H : PHeap} {b : Nat} {l : List (κ × ν)} (h : Mp H b kE vE l) {K : Value → PHeap → Prop}
    (hK : ∀ r o, H r = none → It (H.upd r o) r b kE vE l [] → K (.pointer (at0 r)) (H.upd r o)) : EvV P (Instr.range t (.map (some b))) H K := by
  obtain ⟨kt, et, d, h1, _⟩ := T.out
  obtain ⟨es, c, g1, g2, g3⟩ := h.out
  refine ⟨fun w hs => ⟨_, _, _, run_range_map w t kt et b es c h1 (hs b _ g1), Nx.alloc hs _, hK _ _ (sees_none hs (Nat.le_refl _)) ⟨⟨es, c, #[], ?_, g2, g3, upd_eq .., rfl⟩, by simp, by simp⟩⟩⟩
  rw [upd_ne _ _ (fun e => by have := sees_lt hs g1; omega)]
  exact g1
theorem map_next {ty : TypeId} {H : PHeap} {r b : Nat} {l : List (κ × ν)} {js : List Nat} (h : It H r b kE vE l js) {K : Value → PHeap → Prop}
    (hend : (∀ j, j < l.length → j ∈ js) → K (.tuple #[.bool false]) H)
    (hgo : ∀ j x o, l[j]? = some x → j ∉ js → It (H.upd r o) r b kE vE l (js ++ [j]) → K (.tuple #[.bool true, kE x.1, vE x.2]) (H.upd r o)) : EvV P (Instr.next (.pointer (at0 r)) false ty) H K := by
  obtain ⟨es, c, sn, g1, g2, g3, g4, g6⟩ := h.out
  have hlen : es.toList.length = l.length := by have := congrArg List.length g2; simpa using this
  have hborn : ∀ j e, es.toList[j]? = some e → (sn.contains e.born = true ↔ j ∈ js) := by
    intro j e hj
    rw [Array.contains_iff_mem, ← Array.mem_toList_iff, g6, List.mem_filterMap]
    constructor
    · rintro ⟨i, hi, hb⟩
      obtain ⟨e2, he2, hbb⟩ := Option.map_eq_some_iff.1 hb
      have hn := g3.2.1
      have a1 : (es.toList.map (·.born))[i]? = some e.born := by rw [List.getElem?_map, he2]; simp [hbb]
      have a2 : (es.toList.map (·.born))[j]? = some e.born := by rw [List.getElem?_map, hj]; rfl
      rw [← nodup_at hn a1 a2]; exact hi
    · intro hi
      exact ⟨j, hi, by rw [hj]; rfl⟩
  refine ⟨fun w hs => ?_⟩
  rcases run_next_at (P := P) w ty r b c c sn es c (hs r _ g4) (hs b _ g1) (fun x hx => g3.1 x hx) (Nat.le_refl _) with ⟨h1, h2⟩ | ⟨e, he, w1, hw1, hrun⟩
  · refine ⟨_, w, H, h2, Nx.refl hs, hend fun j hj => ?_⟩
    have hj2 : j < es.toList.length := by omega
    have hx := List.getElem?_eq_getElem hj2
    rw [← hborn j _ hx]
    have h3 : leftOf es sn = #[] := Array.eq_empty_of_size_eq_zero h1
    unfold leftOf at h3
    rw [Array.filter_eq_empty_iff] at h3
    have := h3 _ (Array.mem_toList_iff.1 (List.mem_of_getElem? hx))
    simpa using this
  · unfold leftOf at he
    rw [Array.mem_toList_iff, Array.mem_filter] at he
    obtain ⟨j, hj⟩ := List.getElem?_of_mem (Array.mem_toList_iff.2 he.1)
    have hjs : j ∉ js := fun hin => by
      have := (hborn j e hj).2 hin
      rw [this] at he
      simp at he
    obtain ⟨x, hx, e1, e2⟩ := (enc_at g2 j).1 e hj
    have hs1 : Sees H w1 := by rcases hw1 with rfl | rfl <;> exact hs
    have hn1 : Nx H H w w1 := by
      rcases hw1 with rfl | rfl
      · exact Nx.refl hs
      · exact Nx.drew hs
    refine ⟨_, _, _, hrun, hn1.trans (setBlock_nx hs1 g4 _), ?_⟩
    rw [e1, e2]
    have hrb : b ≠ r := fun e => by rw [e, g4] at g1; cases g1
    refine hgo j x _ hx hjs ⟨⟨es, c, sn.push e.born, by rw [upd_ne _ _ hrb]; exact g1, g2, g3, upd_eq .., ?_⟩, ?_, fun i hi => ?_⟩
    · rw [Array.toList_push, g6, List.filterMap_append]
      simp only [List.filterMap_cons, hj, Option.map_some, List.filterMap_nil]
    · rw [List.nodup_append]
      refine ⟨h.nd, by simp, fun a ha b hb => ?_⟩
      simp at hb
      rw [hb]
      exact fun e => hjs (e ▸ ha)
    · rcases List.mem_append.1 hi with hi | hi
      · exact h.lt i hi
      · simp at hi
        rw [hi]
        exact (List.getElem?_eq_some_iff.1 hx).1
theorem map_range_nil (T : MapT P t kE z) {H : PHeap} {K : Value → PHeap → Prop} (hK : ∀ r, H r = none → K (.pointer (at0 r)) (H.upd r (.mapIter none 0 #[] 0))) : EvV P (Instr.range t (.map none)) H K := by
  obtain ⟨kt, et, d, h1, _⟩ := T.out
  exact ⟨fun w hs => ⟨_, _, _, run_range_nilMap w t kt et h1, Nx.alloc hs _, hK _ (sees_none hs (Nat.le_refl _))⟩⟩
theorem map_next_nil {ty : TypeId} {H : PHeap} {r : Nat} (h : H r = some (.mapIter none 0 #[] 0)) {K : Value → PHeap → Prop} (hK : K (.tuple #[.bool false]) H) : EvV P (Instr.next (.pointer (at0 r)) false ty) H K := by
  refine ⟨fun w hs => ⟨_, w, H, ?_, Nx.refl hs, hK⟩⟩
  have hr := hs r _ h
  simp only [Instr.next, getObj, Sem.run_bind, Sem.run, hr, Result.andThen]
  rfl
/-- The entry of the last step. -/
theorem map_entry_at {H : PHeap} {r b : Nat} {l : List (κ × ν)} {js : List Nat} {j : Nat} {x : κ × ν} (h : It H r b kE vE l (js ++ [j])) (hx : l[j]? = some x) {K : Value → PHeap → Prop} (hK : K (.tuple #[kE x.1, vE x.2]) H) : EvV P (Instr.entry (.pointer (at0 r))) H K := by
  obtain ⟨es, c, sn, g1, g2, g3, g4, g6⟩ := h.out
  obtain ⟨e, he, e1, e2⟩ := (enc_at g2 j).2 x hx
  rw [List.filterMap_append] at g6
  simp only [List.filterMap_cons, he, Option.map_some, List.filterMap_nil] at g6
  have hsn : sn = (js.filterMap fun j => (es.toList[j]?).map (·.born)).toArray.push e.born := by
    apply Array.toList_inj.1
    rw [g6]; simp
  rw [hsn] at g4
  refine ⟨fun w hs => ⟨_, w, H, run_entry_at w r b c _ es c e (hs r _ g4) (hs b _ g1) (List.mem_of_getElem? he) g3.2.1, Nx.refl hs, ?_⟩⟩
  rw [e1, e2]; exact hK
/-- All told: the places are all places, in some order. -/
theorem It.all {H : PHeap} {r b : Nat} {l : List (κ × ν)} {js : List Nat} (h : It H r b kE vE l js) (ha : ∀ j, j < l.length → j ∈ js) : js.Perm (List.range l.length) :=
  (List.perm_ext_iff_of_nodup h.nd List.nodup_range).2 fun j => ⟨fun hj => List.mem_range.2 (h.lt j hj), fun hj => ha j (List.mem_range.1 hj)⟩
theorem It.count {H : PHeap} {r b : Nat} {l : List (κ × ν)} {js : List Nat} (h : It H r b kE vE l js) : js.length ≤ l.length := by
  have hp : js.Perm ((List.range l.length).filter fun j => decide (j ∈ js)) := (List.perm_ext_iff_of_nodup h.nd (List.nodup_range.filter _)).2 fun j => by
    rw [List.mem_filter, List.mem_range]
    exact ⟨fun hj => ⟨h.lt j hj, by simpa using hj⟩, fun hj => by simpa using hj.2⟩
  rw [hp.length_eq]
  have := List.length_filter_le (fun j => decide (j ∈ js)) (List.range l.length)
  simpa using this
theorem map_get_nil (T : MapT P t kE z) {H : PHeap} {k : κ} {ok : Bool} {K : Value → Prop}
    (hK : K (if ok then .tuple #[z, .bool false] else z)) : LookV P (Instr.lookup t (.map none) (kE k) ok) H K := by
  obtain ⟨kt, et, d, h1, h2, h3, h4, h5⟩ := T.out
  obtain ⟨i, hi, hz⟩ := Option.bind_eq_some_iff.1 h3
  refine ⟨_, fun w hs => ?_, hK⟩
  cases ok <;> simp [Instr.lookup, run_underlying h1, run_checkKey h2 (h4 k), run_findKey h2 (show Instr.findNow d (kE k) [] 0 = some none from rfl), Result.andThen, zeroValue, typeInfo, hi, hz]
theorem map_len {ty : TypeId} (T : MapT P t kE z) {H : PHeap} {b : Nat} {l : List (κ × ν)} (h : Mp H b kE vE l) {K : Value → PHeap → Prop} (hK : K (.int .i64 l.length) H) : EvV P (Builtin.len_ #[t] ty #[.map (some b)]) H K := by
  obtain ⟨kt, et, d, h1, _⟩ := T.out
  obtain ⟨es, c, g1, g2, g3⟩ := h.out
  refine ⟨fun w hs => ⟨_, w, H, ?_, Nx.refl hs, hK⟩⟩
  have hl : es.size = l.length := by have := congrArg List.length g2; simpa using this
  simp [Builtin.len_, run_underlying h1, MapKept.run_getObj_map (hs b _ g1), hl, goInt]
theorem map_len_nil {ty : TypeId} (T : MapT P t kE z) {H : PHeap} {K : Value → PHeap → Prop} (hK : K (.int .i64 0) H) : EvV P (Builtin.len_ #[t] ty #[.map none]) H K := by
  obtain ⟨kt, et, d, h1, _⟩ := T.out
  refine ⟨fun w hs => ⟨_, w, H, ?_, Nx.refl hs, hK⟩⟩
  simp [Builtin.len_, run_underlying h1, goInt]

variable [DecidableEq κ]
/-- What is at a key. -/
def mlook (l : List (κ × ν)) (k : κ) : Option ν := (l.find? fun x => decide (x.1 = k)).map (·.2)
/-- With one key more, or another value at it. -/
def mlay (l : List (κ × ν)) (k : κ) (v : ν) : List (κ × ν) := if (mlook l k).isSome then l.map (fun x => if x.1 = k then (k, v) else x) else l ++ [(k, v)]
theorem mlook_none {l : List (κ × ν)} {k : κ} : mlook l k = none ↔ ∀ x ∈ l, x.1 ≠ k := by
  unfold mlook
  rw [Option.map_eq_none_iff, List.find?_eq_none]
  simp
theorem mlook_mem {l : List (κ × ν)} {k : κ} {v : ν} (h : mlook l k = some v) : (k, v) ∈ l := by
  unfold mlook at h
  obtain ⟨x, hx, rfl⟩ := Option.map_eq_some_iff.1 h
  have h1 := List.find?_some hx
  have h2 := List.mem_of_find?_eq_some hx
  have : x.1 = k := by simpa using h1
  rw [← this]; exact h2
theorem mlook_of {l : List (κ × ν)} (hn : (l.map (·.1)).Nodup) {k : κ} {v : ν} (h : (k, v) ∈ l) : mlook l k = some v := by
  induction l with
  | nil => simp at h
  | cons y ys ih =>
    obtain ⟨h1, h2⟩ := List.nodup_cons.1 hn
    unfold mlook
    rw [List.find?_cons]
    by_cases e : y.1 = k
    · rw [show decide (y.1 = k) = true by simp [e]]
      rcases List.mem_cons.1 h with rfl | h
      · rfl
      · exact absurd (List.mem_map.2 ⟨(k, v), h, rfl⟩) (by rw [← e]; exact h1)
    · rw [show decide (y.1 = k) = false by simp [e]]
      rcases List.mem_cons.1 h with h | h
      · exact absurd (by rw [← h]) e
      · exact ih h2 h
theorem mlook_iff {l : List (κ × ν)} (hn : (l.map (·.1)).Nodup) {k : κ} {v : ν} : mlook l k = some v ↔ (k, v) ∈ l := ⟨mlook_mem, mlook_of hn⟩

theorem find_mp {d : TypeDesc} (hk : ∀ k, IsKey d (kE k)) (hinj : ∀ a b, kE a = kE b → a = b) {es : Array MapEntry} {l : List (κ × ν)} (hn : (l.map (·.1)).Nodup) (he : es.toList.map (fun e => (e.key, e.val)) = l.map (fun x => (kE x.1, vE x.2))) (k : κ) :
    (Instr.findNow d (kE k) es.toList 0 = some none ∧ mlook l k = none ∧ ∀ x ∈ es.toList, x.key ≠ kE k) ∨
    ∃ j e v, Instr.findNow d (kE k) es.toList 0 = some (some (j, vE v)) ∧ mlook l k = some v ∧ es.toList[j]? = some e ∧ e.key = kE k ∧ l[j]? = some (k, v) := by
  have hks : ∀ x ∈ es.toList, IsKey d x.key := fun x hx => by
    obtain ⟨j, hj⟩ := List.getElem?_of_mem hx
    obtain ⟨y, _, e, _⟩ := (enc_at he j).1 x hj
    rw [e]; exact hk _
  rcases findNow_spec (hk k) es.toList 0 hks with ⟨h1, h2⟩ | ⟨j, e, h1, h2, h3⟩
  · refine .inl ⟨h1, mlook_none.2 fun x hx e => ?_, h2⟩
    obtain ⟨j, hj⟩ := List.getElem?_of_mem hx
    obtain ⟨y, hy, e1, _⟩ := (enc_at he j).2 x hj
    exact h2 y (List.mem_of_getElem? hy) (by rw [e1, e])
  · obtain ⟨x, hx, e1, e2⟩ := (enc_at he j).1 e h2
    have ek : x.1 = k := hinj _ _ (by rw [← e1, h3])
    have ex : x = (k, x.2) := Prod.ext ek rfl
    rw [ex] at hx
    refine .inr ⟨j, e, x.2, by rw [h1, e2, Nat.zero_add], mlook_of hn (List.mem_of_getElem? hx), h2, h3, hx⟩
theorem map_get (T : MapT P t kE z) {H : PHeap} {b : Nat} {l : List (κ × ν)} (h : Mp H b kE vE l) {k : κ} {ok : Bool} {K : Value → Prop}
    (hK : K (if ok then .tuple #[((mlook l k).map vE).getD z, .bool (mlook l k).isSome] else ((mlook l k).map vE).getD z)) : LookV P (Instr.lookup t (.map (some b)) (kE k) ok) H K := by
  obtain ⟨kt, et, d, h1, h2, h3, h4, h5⟩ := T.out
  have hn := h.nodup
  obtain ⟨es, c, g1, g2, g3⟩ := h.out
  obtain ⟨i, hi, hz⟩ := Option.bind_eq_some_iff.1 h3
  rcases find_mp h4 h5 hn g2 k with ⟨f1, f2, _⟩ | ⟨j, e, v, f1, f2, _⟩
  · refine ⟨_, fun w hs => ?_, hK⟩
    have gb := hs b _ g1
    rw [f2]
    cases ok <;> simp [Instr.lookup, run_underlying h1, MapKept.run_getObj_map gb, run_checkKey h2 (h4 k), run_findKey h2 f1, Result.andThen, zeroValue, typeInfo, hi, hz]
  · refine ⟨_, fun w hs => ?_, hK⟩
    have gb := hs b _ g1
    rw [f2]
    cases ok <;> simp [Instr.lookup, run_underlying h1, MapKept.run_getObj_map gb, run_checkKey h2 (h4 k), run_findKey h2 f1, Result.andThen]
theorem mlay_none {l : List (κ × ν)} {k : κ} {v : ν} (h : mlook l k = none) : mlay l k v = l ++ [(k, v)] := by unfold mlay; rw [h]; rfl
theorem map_put (T : MapT P t kE z) {H : PHeap} {b : Nat} {l : List (κ × ν)} (h : Mp H b kE vE l) {k : κ} {v : ν} {K : PHeap → Prop}
    (hK : ∀ o, Mp (H.upd b o) b kE vE (mlay l k v) → K (H.upd b o)) : EvU P (Instr.mapUpdate t (.map (some b)) (kE k) (vE v)) H K := by
  obtain ⟨kt, et, d, h1, h2, h3, h4, h5⟩ := T.out
  have hn := h.nodup
  obtain ⟨es, c, g1, g2, g3⟩ := h.out
  refine ⟨fun w hs => ?_⟩
  have gb := hs b _ g1
  rcases find_mp h4 h5 hn g2 k with ⟨f1, f2, f3⟩ | ⟨j, e, v0, f1, f2, f3, f4, f5⟩
  · refine ⟨_, _, ?_, setBlock_nx hs g1 (.map (es.push { key := kE k, val := vE v, born := c }) (c + 1)), hK _ ⟨_, _, upd_eq .., ?_, stamped_push g3 f3⟩⟩
    · simp [Instr.mapUpdate, run_underlying h1, MapKept.run_getObj_map gb, run_checkKey h2 (h4 k), run_findKey h2 f1, run_setObj_map _ gb, Result.andThen]
    · rw [mlay_none f2, Array.toList_push, List.map_append, List.map_append, g2]
      rfl
  · have hj : es[j]? = some e := by simpa using f3
    refine ⟨_, _, ?_, setBlock_nx hs g1 (.map (es.modify j fun e => { e with key := kE k, val := vE v }) c), hK _ ⟨_, _, upd_eq .., ?_, ?_⟩⟩
    · simp [Instr.mapUpdate, run_underlying h1, MapKept.run_getObj_map gb, run_checkKey h2 (h4 k), run_findKey h2 f1, hj, f4, run_keyThatStays (h4 k), run_setObj_map _ gb, Result.andThen]
    · refine List.ext_getElem? fun i => ?_
      unfold mlay
      rw [f2, if_pos (show (some v0).isSome = true from rfl)]
      simp only [Array.toList_modify, List.getElem?_map, List.getElem?_modify]
      by_cases e1 : j = i
      · subst e1
        rw [f3, f5]
        simp
      · have h6 := enc_at g2 i
        cases h7 : l[i]? with
        | none =>
          cases h8 : es.toList[i]? with
          | none => rfl
          | some x => obtain ⟨y, hy, _⟩ := h6.1 x h8; rw [h7] at hy; cases hy
        | some x =>
          obtain ⟨y, hy, e2, e3⟩ := h6.2 x h7
          have hne : x.1 ≠ k := fun e4 => by
            have a1 : (l.map (·.1))[i]? = some k := by rw [List.getElem?_map, h7]; simp [e4]
            have a2 : (l.map (·.1))[j]? = some k := by rw [List.getElem?_map, f5]; rfl
            exact e1 (nodup_at hn a2 a1)
          rw [hy]
          simp [hne, e1, e2, e3]
    · refine stamped_modify g3 _ _ (fun _ _ => rfl) (fun e' _ he' => ?_)
      rw [hj] at he'
      cases he'
      exact f4.symm
/-! ### An entry that is found or made, and written -/
structure MpAt (H : PHeap) (b : Nat) (kE : κ → Value) (vE : ν → Value) (l : List (κ × ν)) (k : κ) (s : Int) : Prop where
  out : ∃ (es : Array MapEntry) (clock j : Nat) (e : MapEntry), H b = some (.map es clock) ∧ es.toList.map (fun e => (e.key, e.val)) = l.map (fun x => (kE x.1, vE x.2)) ∧ Stamped es clock ∧ es.toList[j]? = some e ∧ e.key = kE k ∧ (e.born : Int) = s
/-- With the key, if it was not there. -/
def entered (l : List (κ × ν)) (k : κ) (v0 : ν) : List (κ × ν) := if (mlook l k).isSome then l else l ++ [(k, v0)]
theorem map_entry (T : MapT P t kE z) {H : PHeap} {b : Nat} {l : List (κ × ν)} (h : Mp H b kE vE l) {k : κ} {v0 : ν} (hv0 : vE v0 = z) {K : Value → PHeap → Prop}
    (hK : ∀ o (s : Int), MpAt (H.upd b o) b kE vE (entered l k v0) k s → K (.tuple #[((mlook l k).map vE).getD z, .int .i64 s]) (H.upd b o)) : EvV P (Instr.mapEntry t (.map (some b)) (kE k)) H K := by
  obtain ⟨kt, et, d, h1, h2, h3, h4, h5⟩ := T.out
  have hn := h.nodup
  obtain ⟨es, c, g1, g2, g3⟩ := h.out
  obtain ⟨i, hi, hz⟩ := Option.bind_eq_some_iff.1 h3
  refine ⟨fun w hs => ?_⟩
  have gb := hs b _ g1
  rcases find_mp h4 h5 hn g2 k with ⟨f1, f2, f3⟩ | ⟨j, e, v, f1, f2, f3, f4, f5⟩
  · have hK' := hK (.map (es.push { key := kE k, val := z, born := c }) (c + 1)) c ⟨_, _, es.size, { key := kE k, val := z, born := c }, upd_eq .., ?_, stamped_push g3 f3, ?_, rfl, rfl⟩
    · rw [f2] at hK'
      refine ⟨_, _, _, ?_, setBlock_nx hs g1 _, hK'⟩
      simp [Instr.mapEntry, run_underlying h1, MapKept.run_getObj_map gb, run_checkKey h2 (h4 k), run_findKey h2 f1, run_setObj_map _ gb, Result.andThen, zeroValue, typeInfo, hi, hz, goInt]
    · unfold entered
      rw [f2, Array.toList_push, List.map_append, g2]
      simp [hv0]
    · rw [Array.toList_push, List.getElem?_append_right (by simp)]
      simp
  · have hj : es[j]? = some e := by simpa using f3
    have hmod : (es.modify j fun e => { e with key := kE k }) = es := by
      apply Array.ext_getElem?
      intro q
      rw [Array.getElem?_modify]
      split
      · rename_i e1; subst e1
        rw [hj]
        simp [← f4]
      · rfl
    have hK' := hK (.map es c) e.born ⟨es, c, j, e, upd_eq .., by unfold entered; rw [f2]; exact g2, g3, f3, f4, rfl⟩
    rw [f2] at hK'
    refine ⟨_, _, _, ?_, setBlock_nx hs g1 _, hK'⟩
    simp [Instr.mapEntry, run_underlying h1, MapKept.run_getObj_map gb, run_checkKey h2 (h4 k), run_findKey h2 f1, hj, f4, run_keyThatStays (h4 k), run_setObj_map _ gb, Result.andThen, hmod, goInt]
theorem entry_store (T : MapT P t kE z) {H : PHeap} {b : Nat} {l : List (κ × ν)} {k : κ} {s : Int} (h : MpAt H b kE vE l k s) {v : ν} {K : PHeap → Prop} (hK : ∀ o, Mp (H.upd b o) b kE vE (l.map fun x => if x.1 = k then (k, v) else x) → K (H.upd b o)) :
    EvU P (Instr.entryStore t (.map (some b)) (.int .i64 s) (vE v)) H K := by
  obtain ⟨kt, et, d, h1, h2, h3, h4, h5⟩ := T.out
  obtain ⟨es, c, j, e, g1, g2, g3, g4, g5, g6⟩ := h.out
  have hn : (l.map (·.1)).Nodup := Mp.nodup (H := H) (b := b) ⟨es, c, g1, g2, g3⟩
  have hej : es[j]? = some e := by simpa using g4
  refine ⟨fun w hs => ?_⟩
  have gb := hs b _ g1
  have hfi : es.findIdx? (fun e => (e.born : Int) == s) = some j := by
    cases hf : es.findIdx? (fun e => (e.born : Int) == s) with
    | none =>
      have := Array.findIdx?_eq_none_iff.1 hf e (Array.mem_of_getElem? hej)
      simp [g6] at this
    | some i =>
      obtain ⟨hi, hp, _⟩ := Array.findIdx?_eq_some_iff_getElem.1 hf
      have hp' : (es[i].born : Int) = s := by simpa using hp
      have a1 : (es.toList.map (·.born))[i]? = some e.born := by
        rw [List.getElem?_map, Array.getElem?_toList, Array.getElem?_eq_getElem hi]
        simp only [Option.map_some, Option.some.injEq]
        omega
      have a2 : (es.toList.map (·.born))[j]? = some e.born := by rw [List.getElem?_map, g4]; rfl
      rw [nodup_at g3.2.1 a1 a2]
  obtain ⟨x, hx, e1, e2⟩ := (enc_at g2 j).1 e g4
  have ek : x.1 = k := h5 _ _ (by rw [← e1, g5])
  refine ⟨_, _, ?_, setBlock_nx hs g1 (.map (es.modify j fun e => { e with val := vE v }) c), hK _ ⟨_, _, upd_eq .., ?_, ?_⟩⟩
  · simp [Instr.entryStore, MapKept.run_getObj_map gb, hfi, run_setObj_map _ gb, Result.andThen, asInt, asIntOf]
  · refine List.ext_getElem? fun i => ?_
    simp only [Array.toList_modify, List.getElem?_map, List.getElem?_modify]
    by_cases e3 : j = i
    · subst e3
      rw [g4, hx]
      simp [ek, g5]
    · have h6 := enc_at g2 i
      cases h7 : l[i]? with
      | none =>
        cases h8 : es.toList[i]? with
        | none => rfl
        | some x => obtain ⟨y, hy, _⟩ := h6.1 x h8; rw [h7] at hy; cases hy
      | some x2 =>
        obtain ⟨y, hy, e4, e5⟩ := h6.2 x2 h7
        have hne : x2.1 ≠ k := fun e6 => by
          have a1 : (l.map (·.1))[i]? = some k := by rw [List.getElem?_map, h7]; simp [e6]
          have a2 : (l.map (·.1))[j]? = some k := by rw [List.getElem?_map, hx]; simp [ek]
          exact e3 (nodup_at hn a2 a1)
        rw [hy]
        simp [hne, e3, e4, e5]
  · exact stamped_modify g3 _ _ (fun _ _ => rfl) (fun _ _ _ => rfl)
end
end Go.Vx

/- The executor's use: the library's sort, from the kit's contract to a call's. -/
namespace Go.Vx
open Go.Sort

/-- The kit's contract of the sort of a row, and of no element. -/
structure SortC {α : Type} [Inhabited α] (P : Program) (f : FuncId) (enc : α → Value) (S : List α → List α) : Prop where
  row : ∀ (blk cap : Nat) (zs : List α) (w : World), Holds enc w blk 0 zs.toArray → blk < w.heap.size → zs.length < 4611686018427387904 → Calls P f #[.slice (some ⟨blk, 0, none⟩) zs.length cap] w fun e w' =>
    e = .returned (.tuple #[]) ∧ ∃ n os, w' = grow (putRow enc (Sort.ahead w n) blk 0 (S zs).toArray) os
  none : ∀ (cap : Nat) (w : World), Calls P f #[.slice .none 0 cap] w fun e w' => e = .returned (.tuple #[]) ∧ w' = w
  len : ∀ zs, (S zs).length = zs.length
theorem putCells_take {α : Type} [Inhabited α] (enc : α → Value) (l : List α) (c : Array Value) (h : l.length ≤ c.size) : (putCells enc 0 l.toArray c).toList.take l.length = l.map enc := by
  refine List.ext_getElem? fun i => ?_
  unfold putCells
  rw [List.getElem?_take, Array.toList_mapIdx, List.getElem?_mapIdx, List.getElem?_map]
  by_cases hi : i < l.length
  · rw [if_pos hi, Array.getElem?_toList, Array.getElem?_eq_getElem (by omega), List.getElem?_eq_getElem hi]
    simp [hi]
  · rw [if_neg hi, List.getElem?_eq_none (by omega)]
    rfl
theorem sort_ok {α : Type} [Inhabited α] {P : Program} {f : FuncId} {enc : α → Value} {S : List α → List α} (C : SortC P f enc S) {H : PHeap} {e : TypeId} {oa : Option Addr} {n c : Nat} {l : List α} (how : Owns H e 1 oa n c (l.map enc)) (hn : n ≤ 1000000) :
    Triple P f #[.slice oa n c] H fun v H' => v = .tuple #[] ∧ Owns H' e 1 oa n c ((S l).map enc) ∧ Frame oa H H' := by
  have hl : l.length = n := by have := how.len; simpa using this
  refine ⟨fun w hs => ?_⟩
  rcases how.row with ⟨rfl, rfl, rfl⟩ | ⟨g, cur, rfl, hg, hnc, hcm, hcs, ht⟩
  · have hl0 : l = [] := List.eq_nil_of_length_eq_zero hl
    subst hl0
    have hS : S [] = [] := List.eq_nil_of_length_eq_zero (C.len [])
    refine (C.none 0 w).mono ?_
    rintro e' w' ⟨rfl, rfl⟩
    exact ⟨_, H, rfl, Nx.refl hs, rfl, by rw [hS]; exact how, fun k o hk _ => hk⟩
  · have hgw := hs g _ hg
    have hlt := sees_lt hs hg
    rw [Nat.mul_one] at hcs ht
    have hH : Holds enc w g 0 l.toArray := by
      intro j hj
      have hj' : j < l.length := by simpa using hj
      have hcj : cur[j]? = some (enc l[j]) := by
        have h1 : (cur.toList.take n)[j]? = (l.map enc)[j]? := by rw [ht]
        rw [List.getElem?_take, if_pos (by omega), List.getElem?_map, List.getElem?_eq_getElem hj', Array.getElem?_toList] at h1
        simpa using h1
      refine ⟨?_, ?_⟩
      · simp only [World.cell?, Nat.zero_add, hgw]
        simp [hcj, hj']
      · simp [World.frozen?, hgw]
    have := C.row g c l w hH hlt (by omega)
    rw [hl] at this
    refine this.mono ?_
    rintro e' w' ⟨rfl, m, os, rfl⟩
    have get : ∀ k, k < w.heap.size → (grow (putRow enc (Sort.ahead w m) g 0 (S l).toArray) os).heap[k]? = if g = k then some (.cells (putCells enc 0 (S l).toArray cur) e (0, 0)) else w.heap[k]? := by
      intro k hk
      show ((mapBlock (Sort.ahead w m) g (putCells enc 0 (S l).toArray)).heap ++ os)[k]? = _
      have hsz : (mapBlock (Sort.ahead w m) g (putCells enc 0 (S l).toArray)).heap.size = w.heap.size := by simp [mapBlock]
      rw [Array.getElem?_append_left (by rw [hsz]; exact hk)]
      unfold mapBlock
      rw [Array.getElem?_modify]
      split
      · rename_i e1; subst e1
        show (w.heap[g]?).map _ = _
        rw [hgw]; rfl
      · rfl
    refine ⟨_, H.upd g (.cells (putCells enc 0 (S l).toArray cur) e (0, 0)), rfl, ⟨rfl, rfl, rfl, by simp, fun k hk hno => ?_, fun k hk => .inl fun hno => hk ?_, fun k o hk => ?_⟩, rfl, ⟨by simp [C.len, hl], .inr ⟨g, _, rfl, upd_eq .., hnc, hcm, ?_, ?_⟩⟩, fun k o hk hne => ?_⟩
    · rw [get k hk, if_neg (fun e1 => by rw [← e1, hg] at hno; cases hno)]
    · rw [upd_ne _ _ (fun e1 => by rw [e1, hg] at hno; cases hno)]; exact hno
    · by_cases e1 : k = g
      · subst e1
        rw [upd_eq] at hk
        rw [get k hlt, if_pos rfl]; exact hk
      · rw [upd_ne _ _ e1] at hk
        rw [get k (sees_lt hs hk), if_neg (fun e2 => e1 e2.symm)]
        exact hs k o hk
    · rw [Nat.mul_one, ← hcs]
      simp [putCells]
    · rw [Nat.mul_one]
      have := putCells_take enc (S l) cur (by rw [C.len, hl, hcs]; exact hnc)
      rwa [C.len, hl] at this
    · rw [upd_ne _ _ (hne _ rfl)]; exact hk
end Go.Vx

/- The executor's use: texts and bytes. -/
namespace Go.Vx

abbrev bE : Int → List Value := intE .u8
theorem bLen (n : Int) : (bE n).length = 1 := rfl
theorem bOne (n : Int) : ∀ u ∈ bE n, u.oneCell' = true := fun u hu => by simp [intE] at hu; subst hu; rfl
/-- A text's bytes. -/
def bytesL (s : ByteArray) : List Int := s.data.toList.map fun c => (c.toNat : Int)
theorem bytesL_len (s : ByteArray) : (bytesL s).length = s.size := by unfold bytesL; rw [List.length_map, Array.length_toList]; rfl
theorem bytesL_at {s : ByteArray} {i : Nat} (h : i < s.size) : (bytesL s)[i]? = some (byteAt s i) := by
  have h2 : i < s.data.size := h
  unfold bytesL byteAt
  rw [List.getElem?_map, Int.toNat_natCast, Array.getElem?_toList, Array.getElem?_eq_getElem h2]
  rfl
theorem bytesL_range {s : ByteArray} {n : Int} (h : n ∈ bytesL s) : 0 ≤ n ∧ n ≤ 255 := by
  unfold bytesL at h
  obtain ⟨c, _, rfl⟩ := List.mem_map.1 h
  have := UInt8.toNat_lt c
  omega
theorem strOf_bytes (s : ByteArray) : strOfNums (bytesL s) = s := by
  unfold strOfNums bytesL
  rw [List.map_map]
  have : s.data.toList.map ((fun n : Int => UInt8.ofNat n.toNat) ∘ fun c : UInt8 => (c.toNat : Int)) = s.data.toList := by
    conv => rhs; rw [← List.map_id s.data.toList]
    refine List.map_congr_left fun c _ => ?_
    simp
  rw [this]
theorem bytes_strOf {l : List Int} (h : ∀ n ∈ l, 0 ≤ n ∧ n ≤ 255) : bytesL (strOfNums l) = l := by
  unfold strOfNums bytesL
  rw [List.map_map]
  conv => rhs; rw [← List.map_id l]
  refine List.map_congr_left fun n hn => ?_
  have := h n hn
  simp only [Function.comp_apply, id_eq]
  rw [UInt8.toNat_ofNat_of_lt' (by show n.toNat < 256; omega)]
  omega
/-- A text as bytes: to be read. -/
theorem str_bytes {P : Program} {src dst e : TypeId} (hs : P.underlying src = some .string) (hd : P.underlying dst = some (.slice e)) (he : P.underlying e = some (.int .u8)) {H : PHeap} {s : ByteArray} {K : Value → PHeap → Prop}
    (hK : ∀ b c H', H b = none → RdL H' bE 1 (at0 b) s.size (bytesL s) → Sub H H' → K (.slice (at0 b) s.size c) H') : EvV P (convert src dst (.string s)) H K := by
  refine ⟨fun w hs' => ⟨_, _, _, run_bytes_of_string w src dst e s hs hd he, (Nx.drew hs').trans (Nx.alloc (w := w.drew) hs' _), hK _ _ _ (sees_none hs' (Nat.le_refl _)) ⟨bytesL_len s, (fun e => by cases e), fun i x hx => ?_⟩ (Sub.upd _ (sees_none hs' (Nat.le_refl _)))⟩⟩
  have hi : i < s.data.size := by have := (List.getElem?_eq_some_iff.1 hx).1; rw [bytesL_len] at this; exact this
  refine ⟨⟨_, rfl, fun j v hj => ?_⟩⟩
  have hj0 : j = 0 := by have := (List.getElem?_eq_some_iff.1 hj).1; rw [bLen] at this; omega
  subst hj0
  rw [hcell_add]
  simp only [Addr.add_lit, hcell]
  rw [show w.drew.heap.size = w.heap.size from rfl, upd_eq]
  have hv : v = .int .u8 x := by simpa [intE] using hj.symm
  subst hv
  unfold bytesL at hx
  rw [List.getElem?_map, Array.getElem?_toList, Array.getElem?_eq_getElem hi] at hx
  have hx' : (s.data[i].toNat : Int) = x := by simpa using hx
  unfold bytesRow
  simp only [Int.toNat_natCast, Nat.mul_one, Nat.add_zero, Nat.zero_add, Option.isSome_none, Bool.false_eq_true, if_false]
  rw [← hx', Array.getElem?_append_left (by rw [Array.size_map]; exact hi), Array.getElem?_map, Array.getElem?_eq_getElem hi]
  rfl
/-- Bytes as a text. -/
theorem bytes_str {P : Program} {src dst e : TypeId} (hs : P.underlying src = some (.slice e)) (he : P.underlying e = some (.int .u8)) (hd : P.underlying dst = some .string) {H : PHeap} {oa : Option Addr} {n c : Nat} {l : List Int} (h : RdL H bE 1 oa n l) {K : Value → Prop}
    (hK : K (.string (strOfNums l))) : LookV P (convert src dst (.slice oa n c)) H K := by
  refine ⟨_, fun w hw => ?_, hK⟩
  have hl := h.len
  cases oa with
  | none =>
    have h0 := h.pos rfl
    have hl0 : l = [] := List.eq_nil_of_length_eq_zero (by omega)
    subst hl0
    exact run_convert_bytes_nil w src e hs he n c dst hd
  | some a =>
    obtain ⟨b, off, sp⟩ := a
    cases hsp : sp with
    | none =>
      subst hsp
      refine run_convert_bytes_arg w src e hs he b off n c l hl (fun i hi => ?_) dst hd
      have hx := List.getElem?_eq_getElem (show i < l.length by omega)
      obtain ⟨a, ha, hg⟩ := (h.get i _ hx).out
      simp [elemA, Addr.add_lit] at ha
      subst ha
      have := hcell_world hw (hg 0 _ rfl)
      rw [Addr.add_lit, Nat.add_zero] at this
      rw [this, List.getD_eq_getElem?_getD, hx]
      rfl
    | some q =>
      subst hsp
      cases l with
      | nil =>
        simp only [List.length_nil] at hl
        subst hl
        rw [run_convert_bytes_string w src dst e _ 0 c hs he hd, run_bytesToString w _ 0 c [] (by simp [loadCells, loadCellsFrom])]
        rfl
      | cons x xs =>
        obtain ⟨a, ha, hg⟩ := (h.get 0 x rfl).out
        have := hg 0 _ rfl
        simp [elemA, Addr.add] at ha
        subst ha
        simp [Addr.add, hcell] at this
        split at this <;> cases this
end Go.Vx

/- The executor's use: fields of variables, parts of the heap. -/
namespace Go.Vx

theorem Owns.blk {H : PHeap} {e : TypeId} {sz : Nat} {a : Addr} {n c : Nat} {xs : List Value} (h : Owns H e sz (some a) n c xs) : ∃ o, H a.block = some o := by
  rcases h.row with ⟨h1, _⟩ | ⟨g, cur, e1, hg, _⟩
  · cases h1
  · cases e1; exact ⟨_, hg⟩
theorem EvU.mono {P : Program} {s : Sem Unit} {H : PHeap} {K K' : PHeap → Prop} (h : EvU P s H K) (hk : ∀ H', K H' → K' H') : EvU P s H K' :=
  ⟨fun w hs => let ⟨w', H', h1, h2, h3⟩ := h.out w hs; ⟨w', H', h1, h2, hk _ h3⟩⟩
theorem obP (k : Nat) : Ob (at0 k ≠ none) := ⟨by simp [at0]⟩
/-- One proof for two places. -/
theorem both {T C : PHeap → Prop} {G : Prop} (use : (∀ a, C a → T a) → G) (key : ∀ a, C a → T a) : G := use key

/-! ### Fields of a variable -/
/-- The field at a place. -/
theorem Bx.fld {H : PHeap} {k : Nat} {t : TypeId} {l : List Value} (h : Bx H k t l) {i : Nat} {v : Value} (hv : l[i]? = some v) : Reads H (fldA (at0 k) i) [v] := h.readsAt i fun j u hu => by
  match j, hu with
  | 0, hu => simp at hu; subst hu; exact hv
  | j + 1, hu => simp at hu
theorem Bx.put {H : PHeap} {k : Nat} {t : TypeId} {l : List Value} (h : Bx H k t l) {i : Nat} {x : Value} (hi : i < l.length) : Writes H (H.upd k (.cells (l.set i x).toArray t (0, 0))) (fldA (at0 k) i) [x] := by
  have e : l.set i x = l.take i ++ [x] ++ l.drop (i + 1) := by rw [List.set_eq_take_append_cons_drop, if_pos hi]; simp
  have e2 : l = l.take i ++ [l[i]] ++ l.drop (i + 1) := by simp
  have hw := h.writes (l.set i x) (by simp)
  have hr := h.reads
  rw [e] at hw
  conv at hr => arg 3; rw [e2]
  have := hw.part hr rfl
  rw [List.length_take, Nat.min_eq_left (by omega)] at this
  rw [e]
  exact this

/-! ### Parts of the heap -/
/-- F, and what is new behind H in G. -/
def grow (F H G : PHeap) : PHeap := fun q => match H q with | some _ => F q | none => G q
theorem grow_le {F H G : PHeap} (h : Sub F H) : Sub F (grow F H G) := ⟨fun q o hq => by unfold grow; rw [h.le _ _ hq]; exact hq⟩
theorem grow_sub {F H G : PHeap} (h : Sub F H) (hg : Sub H G) : Sub (grow F H G) G := ⟨fun q o hq => by
  unfold grow at hq
  split at hq
  · exact hg.le _ _ (h.le _ _ hq)
  · exact hq⟩
theorem grow_new {F H G : PHeap} {q : Nat} {o : Obj} (hq : grow F H G q = some o) : F q = some o ∨ H q = none := by
  unfold grow at hq
  split at hq
  · exact .inl hq
  · rename_i h; exact .inr h
theorem grow_at {F H G : PHeap} {q : Nat} (h : H q = none) : grow F H G q = G q := by unfold grow; rw [h]
theorem grow_off {F H G : PHeap} {q : Nat} {o : Obj} (h : H q = some o) (hf : F q = none) : grow F H G q = none := by unfold grow; rw [h]; exact hf
theorem grow_own {F H G : PHeap} {e : TypeId} {sz : Nat} {oa : Option Addr} {n c : Nat} {xs : List Value} (h : Owns G e sz oa n c xs) (ho : Off H oa) : Owns (grow F H G) e sz oa n c xs := Owns.mono h fun a o ha hb => by rw [grow_at (ho a ha)]; exact hb
/-- All but some blocks. -/
def rest (H : PHeap) (ks : List Nat) : PHeap := fun q => if q ∈ ks then none else H q
theorem rest_at {H : PHeap} {ks : List Nat} {q : Nat} (h : q ∉ ks) : rest H ks q = H q := by unfold rest; rw [if_neg h]
theorem rest_none {H : PHeap} {ks : List Nat} {q : Nat} (h : q ∈ ks) : rest H ks q = none := by unfold rest; rw [if_pos h]
theorem rest_sub (H : PHeap) (ks : List Nat) : Sub (rest H ks) H := ⟨fun q o hq => by
  unfold rest at hq
  split at hq
  · cases hq
  · exact hq⟩
theorem rest_to {H H' : PHeap} {ks : List Nat} (h : ∀ q o, q ∉ ks → H q = some o → H' q = some o) : Sub (rest H ks) H' := ⟨fun q o hq => by
  unfold rest at hq
  split at hq
  · cases hq
  · rename_i hn; exact h q o hn hq⟩
theorem rest_le {F H : PHeap} {ks : List Nat} (h : Sub F H) (hk : ∀ q ∈ ks, F q = none) : Sub F (rest H ks) := ⟨fun q o hq => by
  rw [rest_at fun hm => by rw [hk q hm] at hq; cases hq]
  exact h.le _ _ hq⟩
theorem RdL.part {α : Type} {H F : PHeap} {E : α → List Value} {sz : Nat} {oa : Option Addr} {n : Nat} {l : List α} (h : RdL H E sz oa n l) (hs : ∀ a o, oa = some a → H a.block = some o → F a.block = some o) : RdL F E sz oa n l := by
  refine ⟨h.len, h.pos, fun i x hx => ?_⟩
  obtain ⟨a, ha, hg⟩ := (h.get i x hx).out
  refine ⟨⟨a, ha, fun j v hv => hcell_mono (fun o ho => ?_) (hg j v hv)⟩⟩
  cases oa with
  | none => simp [elemA] at ha
  | some a0 =>
    simp [elemA] at ha
    subst ha
    have e : ∀ (b : Addr) (m : Nat), (b.add m).block = b.block := fun b m => by unfold Addr.add; split <;> rfl
    rw [e, e] at ho ⊢
    exact hs a0 o rfl ho
/-- What is read lies where nothing else is written. -/
theorem RdL.rest {α : Type} {H : PHeap} {E : α → List Value} {sz : Nat} {oa : Option Addr} {n : Nat} {l : List α} (h : RdL H E sz oa n l) {ks : List Nat} (hs : ∀ a, oa = some a → a.block ∉ ks) : RdL (rest H ks) E sz oa n l :=
  h.part fun a o ha ho => by rw [rest_at (hs a ha)]; exact ho
theorem Off.ne {H : PHeap} {oa : Option Addr} (h : Off H oa) {k : Nat} {o : Obj} (hk : H k = some o) : ∀ a, oa = some a → a.block ≠ k := fun a ha e => by
  have := h a ha
  rw [e, hk] at this; cases this
theorem Off.sub {F H : PHeap} {oa : Option Addr} (h : Off H oa) (hs : Sub F H) : Off F oa := fun a ha => by
  cases hh : F a.block with
  | none => rfl
  | some o => have := h a ha; rw [hs.le _ _ hh] at this; cases this
theorem Sub.none {F H : PHeap} (hs : Sub F H) {k : Nat} (h : H k = .none) : F k = .none := by
  cases hh : F k with
  | none => rfl
  | some o => rw [hs.le _ _ hh] at h; cases h
/-! ### What a call does not know stays -/
theorem Triple.frame {P : Program} {f : FuncId} {args : Array Value} {G H : PHeap} {Q : Value → PHeap → Prop} (h : Triple P f args G Q) (hs : Sub G H) :
    Triple P f args H fun v H' => ∃ G', Q v G' ∧ Sub G' H' ∧ ∀ q o, H q = some o → G q = none → H' q = some o ∧ G' q = none := by
  refine ⟨fun w hw => ?_⟩
  have hwG : Sees G w := fun k o hk => hw k o (hs.le k o hk)
  refine (h.out w hwG).mono ?_
  rintro e w' ⟨v, G', he, hn, hq⟩
  have key : ∀ q o, H q = some o → G q = none → G' q = none := fun q o h1 h2 => by
    cases hh : G' q with
    | none => rfl
    | some o' =>
      rcases hn.fresh q (by rw [hh]; simp) with g | g
      · exact absurd h2 g
      · have := sees_lt hw h1; omega
  refine ⟨v, fun q => match H q, G q with | some o, none => some o | _, _ => G' q, he, ⟨hn.os, hn.tape, hn.output, hn.size, fun k hk h0 => ?_, fun k hk => ?_, fun k o hk => ?_⟩, G', hq, ⟨fun q o ho => ?_⟩, fun q o h1 h2 => ⟨by simp only [h1, h2], key q o h1 h2⟩⟩
  · exact hn.keep k hk (hs.none h0)
  · cases hH : H k with
    | some o => exact .inl (by simp)
    | none =>
      simp only [hH] at hk
      rcases hn.fresh k hk with g | g
      · exact absurd (hs.none hH) g
      · exact .inr g
  · cases hH : H k with
    | none =>
      simp only [hH] at hk
      exact hn.sees k o hk
    | some o1 =>
      cases hG : G k with
      | none =>
        simp only [hH, hG] at hk
        cases hk
        rw [hn.keep k (sees_lt hw hH) hG]
        exact hw k _ hH
      | some o2 =>
        simp only [hH, hG] at hk
        exact hn.sees k o hk
  · cases hH : H q with
    | none => exact ho
    | some o1 =>
      cases hG : G q with
      | none => rw [key q o1 hH hG] at ho; cases ho
      | some o2 => exact ho
/-! ### What is only read -/
/-- F is what is read, of all that is known, H; behind a step these are F' and H': what is known beside F stays, beside F'. -/
structure Stay (F H F' H' : PHeap) : Prop where
  fsub : Sub F F'
  sub : Sub F' H'
  keep : ∀ q o, H q = some o → F q = none → H' q = some o ∧ F' q = none
theorem Stay.refl {F H : PHeap} (h : Sub F H) : Stay F H F H := ⟨Sub.refl F, h, fun _ _ h1 h2 => ⟨h1, h2⟩⟩
theorem Stay.trans {F H F1 H1 F2 H2 : PHeap} (h : Stay F H F1 H1) (h' : Stay F1 H1 F2 H2) : Stay F H F2 H2 :=
  ⟨h.fsub.trans h'.fsub, h'.sub, fun q o h1 h2 => let ⟨a, b⟩ := h.keep q o h1 h2; h'.keep q o a b⟩
theorem Stay.hsub {F H F' H' : PHeap} (h : Stay F H F' H') (hs : Sub F H) : Sub H H' := ⟨fun q o hq => by
  cases hf : F q with
  | none => exact (h.keep q o hq hf).1
  | some o' =>
    have := hs.le _ _ hf
    rw [hq] at this
    injection this with e
    subst e
    exact h.sub.le _ _ (h.fsub.le _ _ hf)⟩
theorem Stay.none {F H F' H' : PHeap} (h : Stay F H F' H') {q : Nat} {o : Obj} (hq : H q = some o) (hf : F q = .none) : F' q = .none := (h.keep q o hq hf).2
theorem Stay.off {F H F' H' : PHeap} (h : Stay F H F' H') {oa : Option Addr} (ho : Off F oa) {e : TypeId} {sz n c : Nat} {xs : List Value} (hw : Owns H e sz oa n c xs) : Off F' oa := fun a ha => by
  subst ha
  obtain ⟨o, hb⟩ := hw.blk
  exact h.none hb (ho a rfl)
theorem Triple.ro {P : Program} {f : FuncId} {args : Array Value} {F H : PHeap} {R : Value → PHeap → Prop} (h : Triple P f args F fun v F' => R v F' ∧ Sub F F') (hs : Sub F H) :
    Triple P f args H fun v H' => ∃ F', R v F' ∧ Stay F H F' H' :=
  (h.frame hs).mono fun _ _ ⟨G', ⟨h1, h2⟩, h3, h4⟩ => ⟨G', h1, h2, h3, h4⟩
theorem Stay.alloc {F H : PHeap} {k : Nat} {o : Obj} (hs : Sub F H) (hk : H k = .none) : Stay F H F (H.upd k o) :=
  ⟨Sub.refl F, hs.trans (Sub.upd o hk), fun q o' h1 h2 => ⟨(Sub.upd o hk).le _ _ h1, h2⟩⟩
theorem Stay.allocR {F H : PHeap} {k : Nat} {o : Obj} (hs : Sub F H) (hk : H k = .none) : Stay F H (F.upd k o) (H.upd k o) := by
  refine ⟨Sub.upd o (hs.none hk), ⟨fun q o' hq => ?_⟩, fun q o' h1 h2 => ?_⟩
  · by_cases e : q = k
    · subst e; rw [upd_eq] at hq ⊢; exact hq
    · rw [Go.Vx.upd_ne _ _ e] at hq ⊢; exact hs.le _ _ hq
  · have e : q ≠ k := fun e => by rw [e, hk] at h1; cases h1
    rw [Go.Vx.upd_ne _ _ e, Go.Vx.upd_ne _ _ e]; exact ⟨h1, h2⟩
theorem Sub.wr {F H : PHeap} {b : Nat} {o : Obj} (h : Sub F H) (hb : F b = .none) : Sub F (H.upd b o) := Bx.sub_of h hb
theorem Frame.bx {H H' : PHeap} {b : Nat} {t : TypeId} {l : List Value} {oa : Option Addr} (hf : Frame oa H H') (h : Bx H b t l) (hn : ∀ a, oa = some a → a.block ≠ b) : Bx H' b t l := h.frame hf fun a ha e => hn a ha e.symm
theorem Fresh.ne {oa oa' : Option Addr} {H : PHeap} (h : Fresh oa oa' H) {b : Nat} {o : Obj} (hb : H b = some o) (hn : ∀ a, oa = some a → a.block ≠ b) : ∀ a, oa' = some a → a.block ≠ b := fun a ha e => by
  rcases h a ha with ⟨a0, h0, e0⟩ | hh
  · exact hn a0 h0 (e0.trans e)
  · rw [e, hb] at hh; cases hh
/-! ### Calls through an interface -/
def methB (P : Program) (t : TypeId) (name : String) (f : FuncId) (ptr : Bool) : Bool :=
  match P.info? t with
  | some i => match i.methods.find? (·.name == name) with
    | some m => m.path.isEmpty && match m.func with
      | some (g, p) => g == f && p == ptr
      | none => false
    | none => false
  | none => false
theorem methB_get {P : Program} {t : TypeId} {name : String} {f : FuncId} {ptr : Bool} (h : methB P t name f ptr = true) : ∃ i m, P.info? t = some i ∧ i.methods.find? (·.name == name) = some m ∧ m.path = #[] ∧ m.func = some (f, ptr) := by
  unfold methB at h
  split at h
  · rename_i i hi
    split at h
    · rename_i m hm
      simp only [Bool.and_eq_true] at h
      obtain ⟨h1, h2⟩ := h
      split at h2
      · rename_i g p hf
        simp only [Bool.and_eq_true, beq_iff_eq] at h2
        obtain ⟨rfl, rfl⟩ := h2
        exact ⟨i, m, hi, hm, by simpa using h1, hf⟩
      · cases h2
    · cases h
  · cases h
theorem run_wrap {P : Program} (ats : Array TypeId) (ty : TypeId) (a : Addr) (s m : ByteArray) (w : World) : (Builtin.ssaWrapNilChk_ ats ty #[.pointer (some a), .string s, .string m]).run P w = .ok (.pointer (some a)) w := rfl
theorem run_method {P : Program} {t e : TypeId} {name : String} {f : FuncId} {ptr : Bool} {v rv : Value} {w : World} (hm : methB P t name f ptr = true) (hu : P.underlying t = some (.pointer e))
    (h : (ptr = true ∧ rv = v) ∨ (ptr = false ∧ ∃ a, v = .pointer (some a) ∧ (loadVar e a).run P w = .ok rv w)) (n : Nat) : (method (n + 1) t v name).run P w = .ok (f, rv) w := by
  obtain ⟨i, m, hi, hf, hp, hfn⟩ := methB_get hm
  rcases h with ⟨rfl, rfl⟩ | ⟨rfl, a, rfl, hl⟩
  · simp [method, typeInfo, hi, hf, hp, hfn, follow, receiverAt, run_und hu, Place.get]
  · simp [method, typeInfo, hi, hf, hp, hfn, follow, receiverAt, run_und hu, Place.get, run_wrap, strVal, asAddr, hl]
theorem run_invoke {P : Program} {t e : TypeId} {name : String} {f : FuncId} {ptr : Bool} {v rv : Value} {args : Array Value} {w : World} (hm : methB P t name f ptr = true) (hu : P.underlying t = some (.pointer e)) (hg : goodF P f = true)
    (h : (ptr = true ∧ rv = v) ∨ (ptr = false ∧ ∃ a, v = .pointer (some a) ∧ (loadVar e a).run P w = .ok rv w)) : (invoke (.fn (.method name) #[]) (#[.iface t v] ++ args)).run P w = .ok (.enter f (#[rv] ++ args)) w := by
  have hsz : ∃ n, P.types.size + Made.depth = n + 1 := by
    have h0 : 0 < Made.depth := by decide
    generalize Made.depth = md at h0
    exact ⟨P.types.size + (md - 1), by omega⟩
  obtain ⟨n, hn⟩ := hsz
  have h0 : (#[Value.iface t v] ++ args)[0]? = some (.iface t v) := by rw [Array.getElem?_append_left (by simp)]; rfl
  have h1 : (#[Value.iface t v] ++ args).extract 1 (#[Value.iface t v] ++ args).size = args := by
    apply Array.ext'
    simp
  simp only [invoke, h0, h1, callMethod, Sem.run_bind, run_program, Result.andThen_ok, hn, run_method hm hu h n]
  exact run_callFunc hg
theorem CallI.ptr {P : Program} {t e : TypeId} {name : String} {f : FuncId} {v : Value} {args : Array Value} {H : PHeap} {Q : Value → PHeap → Prop} (hm : methB P t name f true = true) (hu : P.underlying t = some (.pointer e)) (hg : goodF P f = true)
    (h : Triple P f (#[v] ++ args) H Q) : CallI P (.iface t v) name args H Q :=
  ⟨fun w hs => ⟨f, #[v] ++ args, run_invoke hm hu hg (.inl ⟨rfl, rfl⟩), h.out w hs⟩⟩
theorem CallI.load {P : Program} {t e : TypeId} {name : String} {f : FuncId} {oa : Option Addr} {rv : Value} {args : Array Value} {H : PHeap} {Q : Value → PHeap → Prop} (hm : methB P t name f false = true) (hu : P.underlying t = some (.pointer e)) (ha : aggT P e = some false) (hg : goodF P f = true)
    (hr : Reads H oa [rv]) (h : Triple P f (#[rv] ++ args) H Q) : CallI P (.iface t (.pointer oa)) name args H Q :=
  ⟨fun w hs => by
    obtain ⟨a, ea, hr'⟩ := hr.out
    subst ea
    exact ⟨f, #[rv] ++ args, run_invoke hm hu hg (.inr ⟨rfl, a, rfl, (run_loadVar_reads (l := [rv]) hs hr').2 rv ha rfl⟩), h.out w hs⟩⟩
theorem assert_same {P : Program} {t u : TypeId} {x : Value} {d : TypeDesc} (hu : P.underlying t = some d) (hd : ∀ m, d ≠ .interface m) {H : PHeap} {K : Value → PHeap → Prop} (hK : K (.tuple #[x, .bool true]) H) : EvV P (Instr.typeAssert (.iface t x) u t true) H K :=
  ⟨fun w hs => ⟨_, w, H, by
    unfold Instr.typeAssert
    simp only [Sem.run_bind, run_und hu, Result.andThen_ok]
    cases d <;> first | (exact absurd rfl (hd _)) | simp, Nx.refl hs, hK⟩⟩
/-! ### What is read, with a slice that was written -/
theorem Frame.grab {F H H' : PHeap} {oa oa' : Option Addr} (hs : Sub F H) (hf : Frame oa H H') : ∃ F', Sub F' H' ∧ (∀ a, oa' = some a → F' a.block = H' a.block) ∧
    (∀ q, F q = none → (∀ a, oa' = some a → q ≠ a.block) → F' q = none) ∧ (∀ q o, F q = some o → (∀ a, oa = some a → q ≠ a.block) → F' q = some o) := by
  classical
  refine ⟨fun q => if (∃ a, oa' = some a ∧ q = a.block) then H' q else if (∃ a, oa = some a ∧ q = a.block) then none else F q, ⟨fun q o hq => ?_⟩, fun a ha => ?_, fun q hq hn => ?_, fun q o hq hn => ?_⟩
  · try dsimp only at hq
    split at hq
    · exact hq
    · split at hq
      · cases hq
      · rename_i h2
        exact hf q o (hs.le _ _ hq) fun a ha e => h2 ⟨a, ha, e⟩
  · show (if _ then _ else _) = _
    rw [if_pos ⟨a, ha, rfl⟩]
  · try dsimp only
    rw [if_neg (fun ⟨a, ha, e⟩ => hn a ha e)]
    split
    · rfl
    · exact hq
  · try dsimp only
    split
    · exact hf q o (hs.le _ _ hq) hn
    · rw [if_neg (fun ⟨a, ha, e⟩ => hn a ha e)]; exact hq
/-! ### One element is put in -/
theorem mul_small {n b : Nat} (h1 : n ≤ 1000000) (h2 : b ≤ 1000) : n * b ≤ 140737488355328 := Nat.le_trans (Nat.mul_le_mul h1 h2) (by decide)
theorem ins_tail {P : Program} {t e : TypeId} {sz bytes : Nat} (T : ElemT P t e sz bytes) {α : Type} {E : α → List Value} (hE : ∀ x, (E x).length = sz) (h1 : ∀ x, ∀ u ∈ E x, u.oneCell' = true) {H : PHeap} {oa : Option Addr} {n c i : Nat} {l : List α} {x : α} {ca : Array Value} (hca : ca.toList = E x)
    (hl : RdL H E sz oa n l) (hi : i ≤ n) (hc : n ≤ c) (hn : n ≤ 900000) (hb : bytes ≤ 1000) {K : Option Addr → Nat → Nat → PHeap → Prop} (hK : ∀ b m k H', RdL H' E sz b m (l.take i ++ x :: l.drop i) → m ≤ k → Sub H H' → K b m k H') :
    ∀ (k14 : Nat), H k14 = none → Ob ((0 : Int) ≤ 0 ∧ 0 ≤ (i : Int) ∧ (i : Int) ≤ (c : Int)) ∧
      EvV P (Builtin.append_ #[t, t] t #[.slice (at0 k14) 0 0, .slice (slA oa 0 c sz) ((i : Int).toNat - Int.toNat 0) (c - Int.toNat 0)]) (H.upd k14 (.cells #[] e)) fun v15 H16 =>
        ∃ a17 k18 k19, v15 = Value.slice a17 k18 k19 ∧ ∀ (k20 : Nat), H16 k20 = none →
          EvV P (Builtin.append_ #[t, t] t #[.slice a17 k18 k19, .slice (at0 k20) 1 1]) (H16.upd k20 (.cells ca e)) fun v21 H22 =>
            ∃ a23 k24 k25, v21 = Value.slice a23 k24 k25 ∧ Ob (0 ≤ (i : Int) ∧ (i : Int) ≤ (n : Int) ∧ (n : Int) ≤ (c : Int)) ∧
              EvV P (Builtin.append_ #[t, t] t #[.slice a23 k24 k25, .slice (slA oa i c sz) ((n : Int).toNat - (i : Int).toNat) (c - (i : Int).toNat)]) H22 fun v26 H27 =>
                ∃ a28 k29 k30, v26 = Value.slice a28 k29 k30 ∧ K a28 k29 k30 H27 := by
  intro k1 hk1
  have hsz := T.pos
  refine ⟨⟨by omega, by omega, by omega⟩, ?_⟩
  simp only [slA_zero, Int.toNat_natCast, Int.toNat_zero, Nat.sub_zero]
  have hs1 := Sub.upd (.cells #[] e (0, 0)) hk1
  have ho1 := off_at0 hk1
  refine append_rd T (E := E) (l := []) hE (Owns.empty H k1 _ sz) ((hl.take hi).mono hs1) h1 (by simp [maxLen]; omega) (mul_small (by omega) hb) ?_
  intro b2 c2 H2 g2 hf2 hfr2
  rw [Nat.zero_add] at g2 ⊢
  rw [List.nil_append] at g2
  refine ⟨b2, i, c2, rfl, fun k3 hk3 => ?_⟩
  have hs2 := hf2.sub hs1 ho1
  have ho2 := hfr2.off hs1 ho1
  refine append_one T hk3 (E := E) (x := x) hE g2 hca (h1 x) (by simp [maxLen]; omega) (mul_small (by omega) hb) ?_
  intro b4 c4 H4 g4 hf4 hfr4 _
  refine ⟨b4, i + 1, c4, rfl, ⟨by omega, by omega, by omega⟩, ?_⟩
  have hs4 := hf4.sub hs2 ho2
  have ho4 := hfr4.off hs2 ho2
  refine append_rd T (E := E) hE g4 ((hl.drop hi hc).mono hs4) h1 (by simp [maxLen]; omega) (mul_small (by omega) hb) ?_
  intro b5 c5 H5 g5 hf5 hfr5
  refine ⟨b5, _, c5, rfl, hK _ _ _ _ ?_ g5.le (hf5.sub hs4 ho4)⟩
  have := g5.rd (E := E) (sz := sz) hsz hE
  rwa [List.append_assoc] at this
/-! ### Addresses that are compared -/
theorem run_equal_ptr {P : Program} {tp te : TypeId} {j : TypeInfo} {a b : Nat} {w : World} (hp : P.underlying tp = some (.pointer te)) (hte : P.info? te = some j) (hsz : j.size ≠ 0) {ca cb : Array Value} {ta tb : TypeId} (ha : w.heap[a]? = some (.cells ca ta (0, 0))) (hb : w.heap[b]? = some (.cells cb tb (0, 0))) :
    (Op.equal tp (.pointer (at0 a)) (.pointer (at0 b))).run P w = .ok (decide (a = b)) w := by
  by_cases e : a = b
  · subst e
    have h : ∀ d : Nat, (Op.equalIn (d + 1) tp (.pointer (at0 a)) (.pointer (at0 a))).run P w = .ok true w := fun d => by
      simp [Op.equalIn, run_underlying hp, sizeOf, typeInfo, hte, run_sameAddr_same]
    simp [Op.equal, Op.maxDepth, h 9999]
  · have hne : (⟨a, 0, none⟩ : Addr) ≠ ⟨b, 0, none⟩ := fun h => e (by injection h)
    have h : ∀ d : Nat, (Op.equalIn (d + 1) tp (.pointer (at0 a)) (.pointer (at0 b))).run P w = .ok false w := fun d => by
      simp [Op.equalIn, run_underlying hp, sizeOf, typeInfo, hte, hsz, run_sameAddr_other w hne ha hb]
    simp [Op.equal, Op.maxDepth, h 9999, e]
theorem ptr_neq {P : Program} {tp te : TypeId} {j : TypeInfo} {a b : Nat} (hp : P.underlying tp = some (.pointer te)) (hte : P.info? te = some j) (hsz : j.size ≠ 0) {H : PHeap} {ca cb : List Value} {ta tb : TypeId} (ha : Bx H a ta ca) (hb : Bx H b tb cb) {K : Value → Prop} (hK : K (.bool (!decide (a = b)))) :
    LookV P (binOp .neq tp (.pointer (at0 a)) (.pointer (at0 b))) H K :=
  ⟨_, fun w hs => by
    have := run_equal_ptr (w := w) hp hte hsz (hs _ _ ha) (hs _ _ hb)
    simp only [binOp]
    simp [this], hK⟩
/-! ### Two parts of a heap that meet in F alone -/
structure Parts (F A B H : PHeap) : Prop where
  fa : Sub F A
  fb : Sub F B
  a : Sub A H
  b : Sub B H
  apart : ∀ q, F q = none → A q = none ∨ B q = none
theorem Parts.swap {F A B H : PHeap} (h : Parts F A B H) : Parts F B A H := ⟨h.fb, h.fa, h.b, h.a, fun q hq => (h.apart q hq).symm⟩
theorem Parts.step {F A B H A' H' : PHeap} (h : Parts F A B H) (hs : Sub A' H') (hf : Sub F A') (hk : ∀ q o, H q = some o → A q = none → H' q = some o ∧ A' q = none) : Parts F A' B H' := by
  refine ⟨hf, h.fb, hs, ⟨fun q o hq => ?_⟩, fun q hq => ?_⟩
  · cases hF : F q with
    | some o' =>
      have h1 := h.fb.le q o' hF
      rw [hq] at h1; injection h1 with e; subst e
      exact hs.le q o (hf.le q o hF)
    | none => exact (hk q o (h.b.le q o hq) ((h.apart q hF).resolve_right (by rw [hq]; simp))).1
  · rcases h.apart q hq with h1 | h1
    · cases hb : B q with
      | none => exact .inr rfl
      | some o => exact .inl (hk q o (h.b.le q o hb) h1).2
    · exact .inr h1
/-- A call that is made on one part leaves the other. -/
theorem Triple.part {P : Program} {f : FuncId} {args : Array Value} {F A B H : PHeap} {Q : Value → PHeap → Prop} (hp : Parts F A B H) (h : Triple P f args A Q) (hq : ∀ v A', Q v A' → Sub F A') :
    Triple P f args H fun v H' => ∃ A', Q v A' ∧ Parts F A' B H' :=
  (h.frame hp.a).mono fun v _ ⟨A', h1, h2, h3⟩ => ⟨A', h1, hp.step h2 (hq v A' h1) h3⟩
/-- The parts in a heap that has grown. -/
theorem Parts.mono {F A B H H' : PHeap} (h : Parts F A B H) (hs : Sub H H') : Parts F A B H' := ⟨h.fa, h.fb, h.a.trans hs, h.b.trans hs, h.apart⟩
end Go.Vx
