/- The executor's use: maps. -/
import Derived.Test.YtllbdocjgdnofaaVxY
import Derived.MapKept
import Derived.Maps.RangeRun
namespace Go.Vx
open Go.MapKept

theorem setBlock_nx {H : PHeap} {w : World} (hs : Sees H w) {b : Nat} {o : Obj} (hb : H b = some o) (o' : Obj) : Nx H (H.upd b o') w { w with heap := w.heap.setIfInBounds b o' } := by
  have hlt := sees_lt hs hb
  have get : ∀ k, (w.heap.setIfInBounds b o')[k]? = if b = k then some o' else w.heap[k]? := fun k => by
    rw [Array.getElem?_setIfInBounds]
    split
    · rename_i e; subst e; simp [hlt]
    · rfl
  refine ⟨rfl, rfl, rfl, by simp, fun k hk hn => ?_, fun k hk => .inl fun hn => hk ?_, fun k o hk => ?_⟩
  · show (w.heap.setIfInBounds b o')[k]? = _
    rw [get, if_neg (fun e1 => by rw [← e1, hb] at hn; cases hn)]
  · rw [upd_ne _ _ (fun e1 => by rw [e1, hb] at hn; cases hn)]; exact hn
  · show (w.heap.setIfInBounds b o')[k]? = _
    rw [get]
    by_cases e1 : k = b
    · subst e1
      rw [upd_eq] at hk
      rw [if_pos rfl]
      exact hk
    · rw [upd_ne _ _ e1] at hk
      rw [if_neg (fun e2 => e1 e2.symm)]
      exact hs k o hk

section
variable {κ ν : Type}
/-- How a map's keys are told. -/
structure MapT (P : Program) (t : TypeId) (kE : κ → Value) (z : Value) : Prop where
  out : ∃ kt et d, P.underlying t = some (.map kt et) ∧ P.underlying kt = some d ∧ (P.info? et).bind (·.zero) = some z ∧ (∀ k, IsKey d (kE k)) ∧ ∀ a b, kE a = kE b → a = b
/-- The block b holds a map of these keys and values, in the order in which they came. -/
structure Mp (H : PHeap) (b : Nat) (kE : κ → Value) (vE : ν → Value) (l : List (κ × ν)) : Prop where
  out : ∃ es clock, H b = some (.map es clock) ∧ es.toList.map (fun e => (e.key, e.val)) = l.map (fun x => (kE x.1, vE x.2)) ∧ Stamped es clock
theorem Mp.mono {H H' : PHeap} {b : Nat} {kE : κ → Value} {vE : ν → Value} {l : List (κ × ν)} (h : Mp H b kE vE l) (hs : ∀ o, H b = some o → H' b = some o) : Mp H' b kE vE l := by
  obtain ⟨es, c, h1, h2⟩ := h.out
  exact ⟨es, c, hs _ h1, h2⟩
theorem Mp.new (H : PHeap) (b : Nat) (kE : κ → Value) (vE : ν → Value) : Mp (H.upd b (.map #[] 0)) b kE vE [] := ⟨#[], 0, upd_eq .., rfl, stamped_empty 0⟩
theorem Mp.nodup {H : PHeap} {b : Nat} {kE : κ → Value} {vE : ν → Value} {l : List (κ × ν)} (h : Mp H b kE vE l) : (l.map (·.1)).Nodup := by
  obtain ⟨es, c, _, h2, h3⟩ := h.out
  have h4 := h3.2.2
  have e : es.toList.map (·.key) = (l.map (·.1)).map kE := by
    have := congrArg (List.map Prod.fst) h2
    simpa [List.map_map, Function.comp_def] using this
  rw [e] at h4
  exact List.Pairwise.of_map kE (fun a b hne e => hne (by rw [e])) h4
theorem makeMap_mp {P : Program} {t : TypeId} {H : PHeap} {K : Value → PHeap → Prop} (hK : ∀ b, H b = none → K (.map (some b)) (H.upd b (.map #[] 0))) : EvV P (Instr.makeMap t none) H K :=
  ⟨fun w hs => ⟨.map (some w.heap.size), w.alloc (.map #[] 0), _, rfl, Nx.alloc hs _, hK _ (sees_none hs (Nat.le_refl _))⟩⟩
variable {P : Program} {t : TypeId} {kE : κ → Value} {vE : ν → Value} {z : Value}
theorem nodup_at {α : Type} {l : List α} (hn : l.Nodup) {i j : Nat} {a : α} (h1 : l[i]? = some a) (h2 : l[j]? = some a) : i = j := by
  obtain ⟨g1, e1⟩ := List.getElem?_eq_some_iff.1 h1
  obtain ⟨g2, e2⟩ := List.getElem?_eq_some_iff.1 h2
  have hp := List.pairwise_iff_getElem.1 hn
  rcases Nat.lt_trichotomy i j with h | h | h
  · exact absurd (e1.trans e2.symm) (hp i j g1 g2 h)
  · exact h
  · exact absurd (e2.trans e1.symm) (hp j i g2 g1 h)
theorem enc_at {es : Array MapEntry} {l : List (κ × ν)} (he : es.toList.map (fun e => (e.key, e.val)) = l.map (fun x => (kE x.1, vE x.2))) (j : Nat) :
    (∀ e, es.toList[j]? = some e → ∃ x, l[j]? = some x ∧ e.key = kE x.1 ∧ e.val = vE x.2) ∧ (∀ x, l[j]? = some x → ∃ e, es.toList[j]? = some e ∧ e.key = kE x.1 ∧ e.val = vE x.2) := by
  have h := congrArg (fun l => l[j]?) he
  simp only [List.getElem?_map] at h
  constructor
  · intro e h1
    rw [h1] at h
    cases h2 : l[j]? with
    | none => rw [h2] at h; cases h
    | some x =>
      rw [h2] at h
      have := Option.some.inj h
      exact ⟨x, rfl, (Prod.mk.inj this).1, (Prod.mk.inj this).2⟩
  · intro x h1
    rw [h1] at h
    cases h2 : es.toList[j]? with
    | none => rw [h2] at h; cases h
    | some e =>
      rw [h2] at h
      have := Option.some.inj h
      exact ⟨e, rfl, (Prod.mk.inj this).1, (Prod.mk.inj this).2⟩
/-! ### A range over a map -/
/-- The block r is an iterator of the map in b, which has told these places. -/
structure It (H : PHeap) (r b : Nat) (kE : κ → Value) (vE : ν → Value) (l : List (κ × ν)) (js : List Nat) : Prop where
  out : ∃ es clock seen, H b = some (.map es clock) ∧ es.toList.map (fun e => (e.key, e.val)) = l.map (fun x => (kE x.1, vE x.2)) ∧ Stamped es clock ∧
    H r = some (.mapIter (some b) clock seen clock) ∧ seen.toList = js.filterMap fun j => (es.toList[j]?).map (·.born)
  nd : js.Nodup
  lt : ∀ j ∈ js, j < l.length
theorem It.mono {H H' : PHeap} {r b : Nat} {l : List (κ × ν)} {js : List Nat} (h : It H r b kE vE l js) (hr : ∀ o, H r = some o → H' r = some o) (hb : ∀ o, H b = some o → H' b = some o) : It H' r b kE vE l js := by
  obtain ⟨es, c, sn, h1, h2, h3, h4, h5⟩ := h.out
  exact ⟨⟨es, c, sn, hb _ h1, h2, h3, hr _ h4, h5⟩, h.nd, h.lt⟩
theorem It.mp {H : PHeap} {r b : Nat} {l : List (κ × ν)} {js : List Nat} (h : It H r b kE vE l js) : Mp H b kE vE l := by
  obtain ⟨es, c, sn, h1, h2, h3, h4, h5⟩ := h.out
  exact ⟨es, c, h1, h2, h3⟩
theorem map_range (T : MapT P t kE z) {H : PHeap} {b : Nat} {l : List (κ × ν)} (h : Mp H b kE vE l) {K : Value → PHeap → Prop}
    (hK : ∀ r o, H r = none → It (H.upd r o) r b kE vE l [] → K (.pointer (at0 r)) (H.upd r o)) : EvV P (Instr.range t (.map (some b))) H K := by
  obtain ⟨kt, et, d, h1, _⟩ := T.out
  obtain ⟨es, c, g1, g2, g3⟩ := h.out
  refine ⟨fun w hs => ⟨_, _, _, run_range_map w t kt et b es c h1 (hs b _ g1), Nx.alloc hs _, hK _ _ (sees_none hs (Nat.le_refl _)) ⟨⟨es, c, #[], ?_, g2, g3, upd_eq .., rfl⟩, by simp, by simp⟩⟩⟩
  rw [upd_ne _ _ (fun e => by have := sees_lt hs g1; omega)]
  exact g1
theorem map_next {ty : TypeId} {H : PHeap} {r b : Nat} {l : List (κ × ν)} {js : List Nat} (h : It H r b kE vE l js) {K : Value → PHeap → Prop}
    (hend : (∀ j, j < l.length → j ∈ js) → K (.tuple #[.bool false]) H)
    (hgo : ∀ j x o, l[j]? = some x → j ∉ js → It (H.upd r o) r b kE vE l (js ++ [j]) → K (.tuple #[.bool true, kE x.1, vE x.2]) (H.upd r o)) : EvV P (Instr.next (.pointer (at0 r)) false ty) H K := by
  obtain ⟨es, c, sn, g1, g2, g3, g4, g6⟩ := h.out
  have hlen : es.toList.length = l.length := by have := congrArg List.length g2; simpa using this
  have hborn : ∀ j e, es.toList[j]? = some e → (sn.contains e.born = true ↔ j ∈ js) := by
    intro j e hj
    rw [Array.contains_iff_mem, ← Array.mem_toList_iff, g6, List.mem_filterMap]
    constructor
    · rintro ⟨i, hi, hb⟩
      obtain ⟨e2, he2, hbb⟩ := Option.map_eq_some_iff.1 hb
      have hn := g3.2.1
      have a1 : (es.toList.map (·.born))[i]? = some e.born := by rw [List.getElem?_map, he2]; simp [hbb]
      have a2 : (es.toList.map (·.born))[j]? = some e.born := by rw [List.getElem?_map, hj]; rfl
      rw [← nodup_at hn a1 a2]; exact hi
    · intro hi
      exact ⟨j, hi, by rw [hj]; rfl⟩
  refine ⟨fun w hs => ?_⟩
  rcases run_next_at (P := P) w ty r b c c sn es c (hs r _ g4) (hs b _ g1) (fun x hx => g3.1 x hx) (Nat.le_refl _) with ⟨h1, h2⟩ | ⟨e, he, w1, hw1, hrun⟩
  · refine ⟨_, w, H, h2, Nx.refl hs, hend fun j hj => ?_⟩
    have hj2 : j < es.toList.length := by omega
    have hx := List.getElem?_eq_getElem hj2
    rw [← hborn j _ hx]
    have h3 : leftOf es sn = #[] := Array.eq_empty_of_size_eq_zero h1
    unfold leftOf at h3
    rw [Array.filter_eq_empty_iff] at h3
    have := h3 _ (Array.mem_toList_iff.1 (List.mem_of_getElem? hx))
    simpa using this
  · unfold leftOf at he
    rw [Array.mem_toList_iff, Array.mem_filter] at he
    obtain ⟨j, hj⟩ := List.getElem?_of_mem (Array.mem_toList_iff.2 he.1)
    have hjs : j ∉ js := fun hin => by
      have := (hborn j e hj).2 hin
      rw [this] at he
      simp at he
    obtain ⟨x, hx, e1, e2⟩ := (enc_at g2 j).1 e hj
    have hs1 : Sees H w1 := by rcases hw1 with rfl | rfl <;> exact hs
    have hn1 : Nx H H w w1 := by
      rcases hw1 with rfl | rfl
      · exact Nx.refl hs
      · exact Nx.drew hs
    refine ⟨_, _, _, hrun, hn1.trans (setBlock_nx hs1 g4 _), ?_⟩
    rw [e1, e2]
    have hrb : b ≠ r := fun e => by rw [e, g4] at g1; cases g1
    refine hgo j x _ hx hjs ⟨⟨es, c, sn.push e.born, by rw [upd_ne _ _ hrb]; exact g1, g2, g3, upd_eq .., ?_⟩, ?_, fun i hi => ?_⟩
    · rw [Array.toList_push, g6, List.filterMap_append]
      simp only [List.filterMap_cons, hj, Option.map_some, List.filterMap_nil]
    · rw [List.nodup_append]
      refine ⟨h.nd, by simp, fun a ha b hb => ?_⟩
      simp at hb
      rw [hb]
      exact fun e => hjs (e ▸ ha)
    · rcases List.mem_append.1 hi with hi | hi
      · exact h.lt i hi
      · simp at hi
        rw [hi]
        exact (List.getElem?_eq_some_iff.1 hx).1
theorem map_range_nil (T : MapT P t kE z) {H : PHeap} {K : Value → PHeap → Prop} (hK : ∀ r, H r = none → K (.pointer (at0 r)) (H.upd r (.mapIter none 0 #[] 0))) : EvV P (Instr.range t (.map none)) H K := by
  obtain ⟨kt, et, d, h1, _⟩ := T.out
  exact ⟨fun w hs => ⟨_, _, _, run_range_nilMap w t kt et h1, Nx.alloc hs _, hK _ (sees_none hs (Nat.le_refl _))⟩⟩
theorem map_next_nil {ty : TypeId} {H : PHeap} {r : Nat} (h : H r = some (.mapIter none 0 #[] 0)) {K : Value → PHeap → Prop} (hK : K (.tuple #[.bool false]) H) : EvV P (Instr.next (.pointer (at0 r)) false ty) H K := by
  refine ⟨fun w hs => ⟨_, w, H, ?_, Nx.refl hs, hK⟩⟩
  have hr := hs r _ h
  simp only [Instr.next, getObj, Sem.run_bind, Sem.run, hr, Result.andThen]
  rfl
/-- The entry of the last step. -/
theorem map_entry_at {H : PHeap} {r b : Nat} {l : List (κ × ν)} {js : List Nat} {j : Nat} {x : κ × ν} (h : It H r b kE vE l (js ++ [j])) (hx : l[j]? = some x) {K : Value → PHeap → Prop} (hK : K (.tuple #[kE x.1, vE x.2]) H) : EvV P (Instr.entry (.pointer (at0 r))) H K := by
  obtain ⟨es, c, sn, g1, g2, g3, g4, g6⟩ := h.out
  obtain ⟨e, he, e1, e2⟩ := (enc_at g2 j).2 x hx
  rw [List.filterMap_append] at g6
  simp only [List.filterMap_cons, he, Option.map_some, List.filterMap_nil] at g6
  have hsn : sn = (js.filterMap fun j => (es.toList[j]?).map (·.born)).toArray.push e.born := by
    apply Array.toList_inj.1
    rw [g6]; simp
  rw [hsn] at g4
  refine ⟨fun w hs => ⟨_, w, H, run_entry_at w r b c _ es c e (hs r _ g4) (hs b _ g1) (List.mem_of_getElem? he) g3.2.1, Nx.refl hs, ?_⟩⟩
  rw [e1, e2]; exact hK
/-- All told: the places are all places, in some order. -/
theorem It.all {H : PHeap} {r b : Nat} {l : List (κ × ν)} {js : List Nat} (h : It H r b kE vE l js) (ha : ∀ j, j < l.length → j ∈ js) : js.Perm (List.range l.length) :=
  (List.perm_ext_iff_of_nodup h.nd List.nodup_range).2 fun j => ⟨fun hj => List.mem_range.2 (h.lt j hj), fun hj => ha j (List.mem_range.1 hj)⟩
theorem It.count {H : PHeap} {r b : Nat} {l : List (κ × ν)} {js : List Nat} (h : It H r b kE vE l js) : js.length ≤ l.length := by
  have hp : js.Perm ((List.range l.length).filter fun j => decide (j ∈ js)) := (List.perm_ext_iff_of_nodup h.nd (List.nodup_range.filter _)).2 fun j => by
    rw [List.mem_filter, List.mem_range]
    exact ⟨fun hj => ⟨h.lt j hj, by simpa using hj⟩, fun hj => by simpa using hj.2⟩
  rw [hp.length_eq]
  have := List.length_filter_le (fun j => decide (j ∈ js)) (List.range l.length)
  simpa using this
theorem map_get_nil (T : MapT P t kE z) {H : PHeap} {k : κ} {ok : Bool} {K : Value → Prop}
    (hK : K (if ok then .tuple #[z, .bool false] else z)) : LookV P (Instr.lookup t (.map none) (kE k) ok) H K := by
  obtain ⟨kt, et, d, h1, h2, h3, h4, h5⟩ := T.out
  obtain ⟨i, hi, hz⟩ := Option.bind_eq_some_iff.1 h3
  refine ⟨_, fun w hs => ?_, hK⟩
  cases ok <;> simp [Instr.lookup, run_underlying h1, run_checkKey h2 (h4 k), run_findKey h2 (show Instr.findNow d (kE k) [] 0 = some none from rfl), Result.andThen, zeroValue, typeInfo, hi, hz]
theorem map_len {ty : TypeId} (T : MapT P t kE z) {H : PHeap} {b : Nat} {l : List (κ × ν)} (h : Mp H b kE vE l) {K : Value → PHeap → Prop} (hK : K (.int .i64 l.length) H) : EvV P (Builtin.len_ #[t] ty #[.map (some b)]) H K := by
  obtain ⟨kt, et, d, h1, _⟩ := T.out
  obtain ⟨es, c, g1, g2, g3⟩ := h.out
  refine ⟨fun w hs => ⟨_, w, H, ?_, Nx.refl hs, hK⟩⟩
  have hl : es.size = l.length := by have := congrArg List.length g2; simpa using this
  simp [Builtin.len_, run_underlying h1, MapKept.run_getObj_map (hs b _ g1), hl, goInt]
theorem map_len_nil {ty : TypeId} (T : MapT P t kE z) {H : PHeap} {K : Value → PHeap → Prop} (hK : K (.int .i64 0) H) : EvV P (Builtin.len_ #[t] ty #[.map none]) H K := by
  obtain ⟨kt, et, d, h1, _⟩ := T.out
  refine ⟨fun w hs => ⟨_, w, H, ?_, Nx.refl hs, hK⟩⟩
  simp [Builtin.len_, run_underlying h1, goInt]

variable [DecidableEq κ]
/-- What is at a key. -/
def mlook (l : List (κ × ν)) (k : κ) : Option ν := (l.find? fun x => decide (x.1 = k)).map (·.2)
/-- With one key more, or another value at it. -/
def mlay (l : List (κ × ν)) (k : κ) (v : ν) : List (κ × ν) := if (mlook l k).isSome then l.map (fun x => if x.1 = k then (k, v) else x) else l ++ [(k, v)]
theorem mlook_none {l : List (κ × ν)} {k : κ} : mlook l k = none ↔ ∀ x ∈ l, x.1 ≠ k := by
  unfold mlook
  rw [Option.map_eq_none_iff, List.find?_eq_none]
  simp
theorem mlook_mem {l : List (κ × ν)} {k : κ} {v : ν} (h : mlook l k = some v) : (k, v) ∈ l := by
  unfold mlook at h
  obtain ⟨x, hx, rfl⟩ := Option.map_eq_some_iff.1 h
  have h1 := List.find?_some hx
  have h2 := List.mem_of_find?_eq_some hx
  have : x.1 = k := by simpa using h1
  rw [← this]; exact h2
theorem mlook_of {l : List (κ × ν)} (hn : (l.map (·.1)).Nodup) {k : κ} {v : ν} (h : (k, v) ∈ l) : mlook l k = some v := by
  induction l with
  | nil => simp at h
  | cons y ys ih =>
    obtain ⟨h1, h2⟩ := List.nodup_cons.1 hn
    unfold mlook
    rw [List.find?_cons]
    by_cases e : y.1 = k
    · rw [show decide (y.1 = k) = true by simp [e]]
      rcases List.mem_cons.1 h with rfl | h
      · rfl
      · exact absurd (List.mem_map.2 ⟨(k, v), h, rfl⟩) (by rw [← e]; exact h1)
    · rw [show decide (y.1 = k) = false by simp [e]]
      rcases List.mem_cons.1 h with h | h
      · exact absurd (by rw [← h]) e
      · exact ih h2 h
theorem mlook_iff {l : List (κ × ν)} (hn : (l.map (·.1)).Nodup) {k : κ} {v : ν} : mlook l k = some v ↔ (k, v) ∈ l := ⟨mlook_mem, mlook_of hn⟩

theorem find_mp {d : TypeDesc} (hk : ∀ k, IsKey d (kE k)) (hinj : ∀ a b, kE a = kE b → a = b) {es : Array MapEntry} {l : List (κ × ν)} (hn : (l.map (·.1)).Nodup) (he : es.toList.map (fun e => (e.key, e.val)) = l.map (fun x => (kE x.1, vE x.2))) (k : κ) :
    (Instr.findNow d (kE k) es.toList 0 = some none ∧ mlook l k = none ∧ ∀ x ∈ es.toList, x.key ≠ kE k) ∨
    ∃ j e v, Instr.findNow d (kE k) es.toList 0 = some (some (j, vE v)) ∧ mlook l k = some v ∧ es.toList[j]? = some e ∧ e.key = kE k ∧ l[j]? = some (k, v) := by
  have hks : ∀ x ∈ es.toList, IsKey d x.key := fun x hx => by
    obtain ⟨j, hj⟩ := List.getElem?_of_mem hx
    obtain ⟨y, _, e, _⟩ := (enc_at he j).1 x hj
    rw [e]; exact hk _
  rcases findNow_spec (hk k) es.toList 0 hks with ⟨h1, h2⟩ | ⟨j, e, h1, h2, h3⟩
  · refine .inl ⟨h1, mlook_none.2 fun x hx e => ?_, h2⟩
    obtain ⟨j, hj⟩ := List.getElem?_of_mem hx
    obtain ⟨y, hy, e1, _⟩ := (enc_at he j).2 x hj
    exact h2 y (List.mem_of_getElem? hy) (by rw [e1, e])
  · obtain ⟨x, hx, e1, e2⟩ := (enc_at he j).1 e h2
    have ek : x.1 = k := hinj _ _ (by rw [← e1, h3])
    have ex : x = (k, x.2) := Prod.ext ek rfl
    rw [ex] at hx
    refine .inr ⟨j, e, x.2, by rw [h1, e2, Nat.zero_add], mlook_of hn (List.mem_of_getElem? hx), h2, h3, hx⟩
theorem map_get (T : MapT P t kE z) {H : PHeap} {b : Nat} {l : List (κ × ν)} (h : Mp H b kE vE l) {k : κ} {ok : Bool} {K : Value → Prop}
    (hK : K (if ok then .tuple #[((mlook l k).map vE).getD z, .bool (mlook l k).isSome] else ((mlook l k).map vE).getD z)) : LookV P (Instr.lookup t (.map (some b)) (kE k) ok) H K := by
  obtain ⟨kt, et, d, h1, h2, h3, h4, h5⟩ := T.out
  have hn := h.nodup
  obtain ⟨es, c, g1, g2, g3⟩ := h.out
  obtain ⟨i, hi, hz⟩ := Option.bind_eq_some_iff.1 h3
  rcases find_mp h4 h5 hn g2 k with ⟨f1, f2, _⟩ | ⟨j, e, v, f1, f2, _⟩
  · refine ⟨_, fun w hs => ?_, hK⟩
    have gb := hs b _ g1
    rw [f2]
    cases ok <;> simp [Instr.lookup, run_underlying h1, MapKept.run_getObj_map gb, run_checkKey h2 (h4 k), run_findKey h2 f1, Result.andThen, zeroValue, typeInfo, hi, hz]
  · refine ⟨_, fun w hs => ?_, hK⟩
    have gb := hs b _ g1
    rw [f2]
    cases ok <;> simp [Instr.lookup, run_underlying h1, MapKept.run_getObj_map gb, run_checkKey h2 (h4 k), run_findKey h2 f1, Result.andThen]
theorem mlay_none {l : List (κ × ν)} {k : κ} {v : ν} (h : mlook l k = none) : mlay l k v = l ++ [(k, v)] := by unfold mlay; rw [h]; rfl
theorem map_put (T : MapT P t kE z) {H : PHeap} {b : Nat} {l : List (κ × ν)} (h : Mp H b kE vE l) {k : κ} {v : ν} {K : PHeap → Prop}
    (hK : ∀ o, Mp (H.upd b o) b kE vE (mlay l k v) → K (H.upd b o)) : EvU P (Instr.mapUpdate t (.map (some b)) (kE k) (vE v)) H K := by
  obtain ⟨kt, et, d, h1, h2, h3, h4, h5⟩ := T.out
  have hn := h.nodup
  obtain ⟨es, c, g1, g2, g3⟩ := h.out
  refine ⟨fun w hs => ?_⟩
  have gb := hs b _ g1
  rcases find_mp h4 h5 hn g2 k with ⟨f1, f2, f3⟩ | ⟨j, e, v0, f1, f2, f3, f4, f5⟩
  · refine ⟨_, _, ?_, setBlock_nx hs g1 (.map (es.push { key := kE k, val := vE v, born := c }) (c + 1)), hK _ ⟨_, _, upd_eq .., ?_, stamped_push g3 f3⟩⟩
    · simp [Instr.mapUpdate, run_underlying h1, MapKept.run_getObj_map gb, run_checkKey h2 (h4 k), run_findKey h2 f1, run_setObj_map _ gb, Result.andThen]
    · rw [mlay_none f2, Array.toList_push, List.map_append, List.map_append, g2]
      rfl
  · have hj : es[j]? = some e := by simpa using f3
    refine ⟨_, _, ?_, setBlock_nx hs g1 (.map (es.modify j fun e => { e with key := kE k, val := vE v }) c), hK _ ⟨_, _, upd_eq .., ?_, ?_⟩⟩
    · simp [Instr.mapUpdate, run_underlying h1, MapKept.run_getObj_map gb, run_checkKey h2 (h4 k), run_findKey h2 f1, hj, f4, run_keyThatStays (h4 k), run_setObj_map _ gb, Result.andThen]
    · refine List.ext_getElem? fun i => ?_
      unfold mlay
      rw [f2, if_pos (show (some v0).isSome = true from rfl)]
      simp only [Array.toList_modify, List.getElem?_map, List.getElem?_modify]
      by_cases e1 : j = i
      · subst e1
        rw [f3, f5]
        simp
      · have h6 := enc_at g2 i
        cases h7 : l[i]? with
        | none =>
          cases h8 : es.toList[i]? with
          | none => rfl
          | some x => obtain ⟨y, hy, _⟩ := h6.1 x h8; rw [h7] at hy; cases hy
        | some x =>
          obtain ⟨y, hy, e2, e3⟩ := h6.2 x h7
          have hne : x.1 ≠ k := fun e4 => by
            have a1 : (l.map (·.1))[i]? = some k := by rw [List.getElem?_map, h7]; simp [e4]
            have a2 : (l.map (·.1))[j]? = some k := by rw [List.getElem?_map, f5]; rfl
            exact e1 (nodup_at hn a2 a1)
          rw [hy]
          simp [hne, e1, e2, e3]
    · refine stamped_modify g3 _ _ (fun _ _ => rfl) (fun e' _ he' => ?_)
      rw [hj] at he'
      cases he'
      exact f4.symm
/-! ### An entry that is found or made, and written -/
structure MpAt (H : PHeap) (b : Nat) (kE : κ → Value) (vE : ν → Value) (l : List (κ × ν)) (k : κ) (s : Int) : Prop where
  out : ∃ (es : Array MapEntry) (clock j : Nat) (e : MapEntry), H b = some (.map es clock) ∧ es.toList.map (fun e => (e.key, e.val)) = l.map (fun x => (kE x.1, vE x.2)) ∧ Stamped es clock ∧ es.toList[j]? = some e ∧ e.key = kE k ∧ (e.born : Int) = s
/-- With the key, if it was not there. -/
def entered (l : List (κ × ν)) (k : κ) (v0 : ν) : List (κ × ν) := if (mlook l k).isSome then l else l ++ [(k, v0)]
theorem map_entry (T : MapT P t kE z) {H : PHeap} {b : Nat} {l : List (κ × ν)} (h : Mp H b kE vE l) {k : κ} {v0 : ν} (hv0 : vE v0 = z) {K : Value → PHeap → Prop}
    (hK : ∀ o (s : Int), MpAt (H.upd b o) b kE vE (entered l k v0) k s → K (.tuple #[((mlook l k).map vE).getD z, .int .i64 s]) (H.upd b o)) : EvV P (Instr.mapEntry t (.map (some b)) (kE k)) H K := by
  obtain ⟨kt, et, d, h1, h2, h3, h4, h5⟩ := T.out
  have hn := h.nodup
  obtain ⟨es, c, g1, g2, g3⟩ := h.out
  obtain ⟨i, hi, hz⟩ := Option.bind_eq_some_iff.1 h3
  refine ⟨fun w hs => ?_⟩
  have gb := hs b _ g1
  rcases find_mp h4 h5 hn g2 k with ⟨f1, f2, f3⟩ | ⟨j, e, v, f1, f2, f3, f4, f5⟩
  · have hK' := hK (.map (es.push { key := kE k, val := z, born := c }) (c + 1)) c ⟨_, _, es.size, { key := kE k, val := z, born := c }, upd_eq .., ?_, stamped_push g3 f3, ?_, rfl, rfl⟩
    · rw [f2] at hK'
      refine ⟨_, _, _, ?_, setBlock_nx hs g1 _, hK'⟩
      simp [Instr.mapEntry, run_underlying h1, MapKept.run_getObj_map gb, run_checkKey h2 (h4 k), run_findKey h2 f1, run_setObj_map _ gb, Result.andThen, zeroValue, typeInfo, hi, hz, goInt]
    · unfold entered
      rw [f2, Array.toList_push, List.map_append, g2]
      simp [hv0]
    · rw [Array.toList_push, List.getElem?_append_right (by simp)]
      simp
  · have hj : es[j]? = some e := by simpa using f3
    have hmod : (es.modify j fun e => { e with key := kE k }) = es := by
      apply Array.ext_getElem?
      intro q
      rw [Array.getElem?_modify]
      split
      · rename_i e1; subst e1
        rw [hj]
        simp [← f4]
      · rfl
    have hK' := hK (.map es c) e.born ⟨es, c, j, e, upd_eq .., by unfold entered; rw [f2]; exact g2, g3, f3, f4, rfl⟩
    rw [f2] at hK'
    refine ⟨_, _, _, ?_, setBlock_nx hs g1 _, hK'⟩
    simp [Instr.mapEntry, run_underlying h1, MapKept.run_getObj_map gb, run_checkKey h2 (h4 k), run_findKey h2 f1, hj, f4, run_keyThatStays (h4 k), run_setObj_map _ gb, Result.andThen, hmod, goInt]
theorem entry_store (T : MapT P t kE z) {H : PHeap} {b : Nat} {l : List (κ × ν)} {k : κ} {s : Int} (h : MpAt H b kE vE l k s) {v : ν} {K : PHeap → Prop} (hK : ∀ o, Mp (H.upd b o) b kE vE (l.map fun x => if x.1 = k then (k, v) else x) → K (H.upd b o)) :
    EvU P (Instr.entryStore t (.map (some b)) (.int .i64 s) (vE v)) H K := by
  obtain ⟨kt, et, d, h1, h2, h3, h4, h5⟩ := T.out
  obtain ⟨es, c, j, e, g1, g2, g3, g4, g5, g6⟩ := h.out
  have hn : (l.map (·.1)).Nodup := Mp.nodup (H := H) (b := b) ⟨es, c, g1, g2, g3⟩
  have hej : es[j]? = some e := by simpa using g4
  refine ⟨fun w hs => ?_⟩
  have gb := hs b _ g1
  have hfi : es.findIdx? (fun e => (e.born : Int) == s) = some j := by
    cases hf : es.findIdx? (fun e => (e.born : Int) == s) with
    | none =>
      have := Array.findIdx?_eq_none_iff.1 hf e (Array.mem_of_getElem? hej)
      simp [g6] at this
    | some i =>
      obtain ⟨hi, hp, _⟩ := Array.findIdx?_eq_some_iff_getElem.1 hf
      have hp' : (es[i].born : Int) = s := by simpa using hp
      have a1 : (es.toList.map (·.born))[i]? = some e.born := by
        rw [List.getElem?_map, Array.getElem?_toList, Array.getElem?_eq_getElem hi]
        simp only [Option.map_some, Option.some.injEq]
        omega
      have a2 : (es.toList.map (·.born))[j]? = some e.born := by rw [List.getElem?_map, g4]; rfl
      rw [nodup_at g3.2.1 a1 a2]
  obtain ⟨x, hx, e1, e2⟩ := (enc_at g2 j).1 e g4
  have ek : x.1 = k := h5 _ _ (by rw [← e1, g5])
  refine ⟨_, _, ?_, setBlock_nx hs g1 (.map (es.modify j fun e => { e with val := vE v }) c), hK _ ⟨_, _, upd_eq .., ?_, ?_⟩⟩
  · simp [Instr.entryStore, MapKept.run_getObj_map gb, hfi, run_setObj_map _ gb, Result.andThen, asInt, asIntOf]
  · refine List.ext_getElem? fun i => ?_
    simp only [Array.toList_modify, List.getElem?_map, List.getElem?_modify]
    by_cases e3 : j = i
    · subst e3
      rw [g4, hx]
      simp [ek, g5]
    · have h6 := enc_at g2 i
      cases h7 : l[i]? with
      | none =>
        cases h8 : es.toList[i]? with
        | none => rfl
        | some x => obtain ⟨y, hy, _⟩ := h6.1 x h8; rw [h7] at hy; cases hy
      | some x2 =>
        obtain ⟨y, hy, e4, e5⟩ := h6.2 x2 h7
        have hne : x2.1 ≠ k := fun e6 => by
          have a1 : (l.map (·.1))[i]? = some k := by rw [List.getElem?_map, h7]; simp [e6]
          have a2 : (l.map (·.1))[j]? = some k := by rw [List.getElem?_map, hx]; simp [ek]
          exact e3 (nodup_at hn a2 a1)
        rw [hy]
        simp [hne, e3, e4, e5]
  · exact stamped_modify g3 _ _ (fun _ _ => rfl) (fun _ _ _ => rfl)
end
end Go.Vx
