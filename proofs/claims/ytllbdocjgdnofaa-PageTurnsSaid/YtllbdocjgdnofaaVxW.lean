/- The executor's use: copy, clear, and 'append' where there is room. -/
import Derived.Test.YtllbdocjgdnofaaVxT
import Derived.Lib.AppendZerosOnto
import Derived.Lib.Overlaps
import Derived.Laws.Externs
namespace Go.Vx

/-- Cells that are written, or none. -/
def WritesN (H H' : PHeap) (oa : Option Addr) (l : List Value) : Prop := (l = [] ∧ H' = H) ∨ Writes H H' oa l
theorem run_writesN {P : Program} {H H' : PHeap} {oa : Option Addr} {l : List Value} {w : World} (h : WritesN H H' oa l) (hs : Sees H w) (h1 : ∀ v ∈ l, v.oneCell' = true) :
    ∃ w', Nx H H' w w' ∧ ∀ a, oa = some a → (storeCells a l).run P w = .ok () w' := by
  rcases h with ⟨rfl, rfl⟩ | h
  · exact ⟨w, Nx.refl hs, fun a _ => by simp [storeCells]⟩
  · obtain ⟨g, off, c, e, lo, hi, rfl, hg, hf, hl, hn⟩ := h.sound hs
    refine ⟨_, hn, fun a ha => ?_⟩
    cases ha
    have := run_storeCells_gen P g off e lo hi l 0 c w hg (by simpa using hf) (by simpa using hl) h1
    simpa [over] using this
/-- All is read ahead of the first write. -/
theorem copy_rw {P : Program} {t t2 ty e : TypeId} {sz bytes : Nat} (T : ElemT P t e sz bytes) {H H' : PHeap} {da sa : Option Addr} {dl dc sl sc n : Nat} {cs : List Value} (hn' : n = min sl dl) (hl : cs.length = n * sz)
    (hsrc : ∀ a, sa = some a → ∀ (j : Nat) v, cs[j]? = some v → hcell H (a.add j) = some v) (hs0 : sa = none → n = 0) (hw : WritesN H H' da cs) (h1 : ∀ v ∈ cs, v.oneCell' = true) {K : Value → PHeap → Prop} (hK : K (.int .i64 n) H') :
    EvV P (Builtin.copy_ #[t, t2] ty #[.slice da dl dc, .slice sa sl sc]) H K := by
  have hn : n = Nat.min sl dl := hn'
  obtain ⟨i, z, hi, hz, hsz, hby, hzs⟩ := T.info
  refine ⟨fun w hs => ?_⟩
  have hfc : (Builtin.firstCells i.size n (.slice sa sl sc)).run P w = .ok cs.toArray w := by
    cases sa with
    | some a => exact run_firstCells_some (P := P) w i.size n a sl sc cs (by rw [hsz]; exact hl) (fun j v hv => hcell_world hs (hsrc a rfl j v hv))
    | none =>
      have h0 := hs0 rfl
      have : cs = [] := List.eq_nil_of_length_eq_zero (by rw [hl, h0]; simp)
      subst this
      simp [Builtin.firstCells]
  rw [hn] at hfc hK
  cases da with
  | some a =>
    obtain ⟨w', hnx, hst⟩ := run_writesN (P := P) hw hs h1
    refine ⟨_, w', H', ?_, hnx, hK⟩
    simp [Builtin.copy_, run_underlying T.under, Builtin.lenOf, sizeOf, typeInfo, hi, hfc, hst a rfl, goInt]
  | none =>
    rcases hw with ⟨rfl, rfl⟩ | hw
    · refine ⟨_, w, H', ?_, Nx.refl hs, hK⟩
      simp [Builtin.copy_, run_underlying T.under, Builtin.lenOf, sizeOf, typeInfo, hi, hfc, goInt]
    · obtain ⟨a, _, _, _, _, ha, _⟩ := hw.out
      cases ha
/-- Where there is room, in place: whatever slice it is. -/
theorem append_room {P : Program} {t ty e : TypeId} {sz bytes : Nat} (T : ElemT P t e sz bytes) {H H' : PHeap} {a : Addr} {sa : Option Addr} {n c m sc : Nat} {cs : List Value} (hl : cs.length = m * sz) (hroom : n + m ≤ c)
    (hsrc : ∀ b, sa = some b → ∀ (j : Nat) v, cs[j]? = some v → hcell H (b.add j) = some v) (hs0 : sa = none → m = 0) (hw : WritesN H H' (some (a.add (n * sz))) cs) (h1 : ∀ v ∈ cs, v.oneCell' = true) {K : Value → PHeap → Prop} (hK : K (.slice (some a) (n + m) c) H') :
    EvV P (Builtin.append_ #[t, t] ty #[.slice (some a) n c, .slice sa m sc]) H K := by
  obtain ⟨i, z, hi, hz, hsz, hby, hzs⟩ := T.info
  refine ⟨fun w hs => ?_⟩
  have hfc : (Builtin.firstCells i.size m (.slice sa m sc)).run P w = .ok cs.toArray w := by
    cases sa with
    | some b => exact run_firstCells_some (P := P) w i.size m b m sc cs (by rw [hsz]; exact hl) (fun j v hv => hcell_world hs (hsrc b rfl j v hv))
    | none =>
      have h0 := hs0 rfl
      have : cs = [] := List.eq_nil_of_length_eq_zero (by rw [hl, h0]; simp)
      subst this
      simp [Builtin.firstCells]
  obtain ⟨w', hnx, hst⟩ := run_writesN (P := P) hw hs h1
  refine ⟨_, w', H', ?_, hnx, hK⟩
  have := hst _ rfl
  rw [← hsz] at this
  simp [Builtin.append_, run_underlying T.under, sizeOf, typeInfo, hi, Builtin.lenOf, hroom, hfc, this]
theorem clear_rw {P : Program} {t ty e : TypeId} {sz bytes : Nat} (T : ElemT P t e sz bytes) {H H' : PHeap} {a : Option Addr} {n c : Nat} {α : Type} {E : α → List Value} {Z : α} (hZ : ∀ i z, P.info? e = some i → i.zero = some z → z.cells.toList = E Z) (h1 : ∀ v ∈ E Z, v.oneCell' = true)
    (hn : a = none → n = 0) (hw : WritesN H H' a ((List.replicate n Z).flatMap E)) {K : Value → PHeap → Prop} (hK : K (.tuple #[]) H') : EvV P (Builtin.clear_ #[t] ty #[.slice a n c]) H K := by
  obtain ⟨i, z, hi, hz, hsz, hby, hzs⟩ := T.info
  refine ⟨fun w hs => ?_⟩
  have hz' := hZ i z hi hz
  obtain ⟨w', hnx, hst⟩ := run_writesN (P := P) hw hs (fun v hv => by
    obtain ⟨x, hx, hv'⟩ := List.mem_flatMap.1 hv
    obtain ⟨_, hxe⟩ := List.mem_replicate.1 hx
    rw [hxe] at hv'
    exact h1 v hv')
  have hmade : (Builtin.zeroCells z.cells n).toList = (List.replicate n Z).flatMap E := by
    have g1 := flatten_range z.cells.toList sz (by rw [Array.length_toList]; exact hzs) n
    have g2 : (List.replicate n Z).flatMap E = (List.replicate n z.cells.toList).flatten := by rw [List.flatMap_def, List.map_replicate, hz']
    rw [g2, ← g1]
    unfold Builtin.zeroCells
    rw [Array.toList_map, Array.toList_range]
    simp [hzs]
  cases a with
  | none =>
    have h0 := hn rfl
    subst h0
    rcases hw with ⟨_, rfl⟩ | hw
    · refine ⟨_, w, H', ?_, Nx.refl hs, hK⟩
      simp [Builtin.clear_, run_underlying T.under]
    · obtain ⟨a, _, _, _, _, ha, _⟩ := hw.out
      cases ha
  | some a =>
    cases n with
    | zero =>
      rcases hw with ⟨_, rfl⟩ | hw
      · refine ⟨_, w, H', ?_, Nx.refl hs, hK⟩
        simp [Builtin.clear_, run_underlying T.under]
      · have hs2 := hst a rfl
        simp [storeCells] at hs2
        subst hs2
        refine ⟨_, w, H', ?_, hnx, hK⟩
        simp [Builtin.clear_, run_underlying T.under]
    | succ n =>
      refine ⟨_, w', H', ?_, hnx, hK⟩
      have := hst a rfl
      rw [← hmade] at this
      simp [Builtin.clear_, run_underlying T.under, zeroValue, typeInfo, hi, hz, this]
theorem zeroCells_list {P : Program} {e : TypeId} {sz : Nat} {α : Type} {E : α → List Value} {Z : α} (hZ : ∀ i z, P.info? e = some i → i.zero = some z → z.cells.toList = E Z) {i : TypeInfo} {z : Value} (hi : P.info? e = some i) (hz : i.zero = some z) (hzs : z.cells.size = sz) (n : Nat) :
    (Builtin.zeroCells z.cells n).toList = (List.replicate n Z).flatMap E := by
  have hz' := hZ i z hi hz
  have g1 := flatten_range z.cells.toList sz (by rw [Array.length_toList]; exact hzs) n
  have g2 : (List.replicate n Z).flatMap E = (List.replicate n z.cells.toList).flatten := by rw [List.flatMap_def, List.map_replicate, hz']
  rw [g2, ← g1]
  unfold Builtin.zeroCells
  rw [Array.toList_map, Array.toList_range]
  simp [hzs]
/-- 'append(s, make([]T, m)...)' where there is no room. -/
theorem append_zeros {P : Program} {t tn ty e : TypeId} {sz bytes : Nat} {kn kq : IntKind} (T : ElemT P t e sz bytes) (htn : P.underlying tn = some (.int kn)) {H : PHeap} {α : Type} {E : α → List Value} {Z : α} (hE : ∀ x, (E x).length = sz)
    (hZ : ∀ i z, P.info? e = some i → i.zero = some z → z.cells.toList = E Z) {oa : Option Addr} {n c m : Nat} {l : List α} (hrd : RdL H E sz oa n l) (h0 : 0 < m) (hg : c < n + m) (h63 : n + m ≤ maxLen) (hbytes : (n + m) * bytes ≤ 140737488355328) {K : Value → PHeap → Prop}
    (hK : ∀ b c' H', H b = none → OwnL H' e E sz (at0 b) (n + m) c' (l ++ List.replicate m Z) → Frame none H H' → K (.slice (at0 b) (n + m) c') H') : EvV P (Builtin.append_ #[t, tn] ty #[.slice oa n c, .int kq (m : Int)]) H K := by
  obtain ⟨i, z, hi, hz, hsz, hby, hzs⟩ := T.info
  refine ⟨fun w hs => ?_⟩
  have hold : (Builtin.firstCells i.size n (.slice oa n c)).run P w.drew = .ok (l.flatMap E).toArray w.drew := by
    cases oa with
    | some a => exact run_firstCells_some (P := P) w.drew i.size n a n c (l.flatMap E) (by rw [hsz, length_flatMap hE, hrd.len]) (fun j v hv => hcell_world (H := H) (w := w.drew) hs (hrd.flat hE j v hv))
    | none =>
      have h0 := hrd.pos rfl
      have hl : l = [] := List.eq_nil_of_length_eq_zero (by rw [hrd.len, h0])
      subst hl
      simp [Builtin.firstCells]
  have hml : n + m ≤ 9223372036854775807 := by simp only [maxLen] at h63; omega
  have hfit := growslice_fits (bytes := bytes) hg hbytes
  have hmb : m * bytes ≤ (n + m) * bytes := Nat.mul_le_mul_right _ (by omega)
  have hr := Lib.run_append_grow_zeros (P := P) w t tn ty e i z kq kn T.under htn hi hz oa n c (l.flatMap E) hold m h0 (by rw [hsz]; exact T.pos) hg (by omega) (by rw [hby]; omega) (by rw [hby]; exact hfit)
  have hge := grownCap_ge w (n + m) c e
  have hcm := grownCap_le_maxLen w (n + m) c e h63
  have hzm := zeroCells_list hZ hi hz hzs m
  refine ⟨_, _, H.upd w.heap.size (.cells ((l.flatMap E).toArray ++ Builtin.zeroCells z.cells m ++ Builtin.zeroCells z.cells (grownCap w (n + m) c e - (n + m))) e (0, 0)), hr, (Nx.drew hs).trans (Nx.alloc (w := w.drew) hs _), hK _ _ _ (sees_none hs (Nat.le_refl _)) ⟨?_, .inr ⟨_, _, rfl, upd_eq .., hge, hcm, ?_, ?_⟩⟩ fun k o hk _ => ?_⟩
  · rw [length_flatMap hE, List.length_append, List.length_replicate, hrd.len]
  · simp only [Array.size_append, List.size_toArray, size_zeroCells, hzs, length_flatMap hE, hrd.len, ← Nat.add_mul]
    congr 1
    omega
  · simp only [Array.toList_append, hzm]
    rw [← List.flatMap_append, List.take_left' (by rw [length_flatMap hE, List.length_append, List.length_replicate, hrd.len])]
  · rw [Go.Vx.upd_ne _ _ (fun e => by have := sees_lt hs hk; omega)]; exact hk
/-- Slices of two blocks do not overlap. -/
theorem overlaps_apart {P : Program} {f : FuncId} {fn : Func} {tS tR e : TypeId} {sz bytes : Nat} (T : ElemT P tS e sz bytes) (hf : P.funcs[f]? = some fn) (hname : (fn.name == "runtime.NumGoroutine") = false) (hb : fn.body.isNone = true) (hn : Extern.findNext fn = none)
    (he : Extern.find fn = some (Extern.SlicesOverlaps.overlaps #[tS, tS] #[tR])) {H : PHeap} {a b : Addr} {la ca lb cb : Nat} (hne : a.block ≠ b.block) {cA cB : Array Value} {tA tB : TypeId} (hA : H a.block = some (.cells cA tA (0, 0))) (hB : H b.block = some (.cells cB tB (0, 0)))
    (hB0 : cB.size ≠ 0) {K : Value → PHeap → Prop} (hK : K (.bool false) H) : ExtV P f #[.slice (some a) la ca, .slice (some b) lb cb] H K := by
  obtain ⟨i, z, hi, hz, hsz, hby, hzs⟩ := T.info
  refine ⟨fun w hs => ⟨_, w, H, ?_, Nx.refl hs, hK⟩⟩
  rw [run_callFunc_extern hf hname hb hn he, Lib.run_overlaps_apart (P := P) w tS tR e T.under sz (fun w => by simp [sizeOf, typeInfo, hi, hsz]) a b la ca lb cb hne tA tB cA.size cB.size (by simp [World.shape?, hs _ _ hA]) (by simp [World.shape?, hs _ _ hB]) hB0
    (by simp [World.frozen?, hs _ _ hA]) (by simp [World.frozen?, hs _ _ hA])]
  rfl
/-! ### A slice of the call's own, cell by cell -/
theorem Owns.put {H : PHeap} {e : TypeId} {sz : Nat} {oa : Option Addr} {n c : Nat} {xs ys : List Value} (h : Owns H e sz oa n c xs) {p : Nat} (hp : p * sz + ys.length ≤ n * sz) (hn : oa ≠ none) :
    ∃ H', Writes H H' (elemA oa (p : Int) sz) ys ∧ Owns H' e sz oa n c (xs.take (p * sz) ++ ys ++ xs.drop (p * sz + ys.length)) ∧ Frame oa H H' := by
  have hlen := h.len
  rcases h.row with ⟨e1, _⟩ | ⟨g, cur, rfl, hg, hnc, hcm, hcs, ht⟩
  · exact absurd e1 hn
  have hb2 : n * sz ≤ c * sz := Nat.mul_le_mul_right _ hnc
  have hcur : cur.toList = xs ++ cur.toList.drop (n * sz) := by rw [← ht, List.take_append_drop]
  have key : cur.toList.take (p * sz) ++ ys ++ cur.toList.drop (p * sz + ys.length) = (xs.take (p * sz) ++ ys ++ xs.drop (p * sz + ys.length)) ++ cur.toList.drop (n * sz) := by
    conv => lhs; rw [hcur]
    rw [List.take_append_of_le_length (by omega), List.drop_append_of_le_length (by omega)]
    simp only [List.append_assoc]
  have hl2 : (xs.take (p * sz) ++ ys ++ xs.drop (p * sz + ys.length)).length = n * sz := by
    simp only [List.length_append, List.length_take, List.length_drop, hlen]
    omega
  refine ⟨H.upd g (.cells ((xs.take (p * sz) ++ ys ++ xs.drop (p * sz + ys.length)) ++ cur.toList.drop (n * sz)).toArray e (0, 0)), ⟨⟨⟨g, p * sz, none⟩, cur, e, 0, 0, by simp [elemA, Addr.add_lit], rfl, hg, by simp only; omega, fun _ _ => by omega, by simp only [key]⟩⟩,
    ⟨hl2, .inr ⟨g, _, rfl, upd_eq .., hnc, hcm, ?_, ?_⟩⟩, fun k o hk hne => ?_⟩
  · simp only [List.size_toArray, List.length_append, hl2, List.length_drop, Array.length_toList, hcs] at *
    omega
  · rw [List.take_left' hl2]
  · rw [Go.Vx.upd_ne _ _ (hne _ rfl)]; exact hk
/-- The length rises into what is spare. -/
theorem Owns.extend {H : PHeap} {e : TypeId} {sz : Nat} {oa : Option Addr} {n c m : Nat} {xs : List Value} (h : Owns H e sz oa n c xs) (hm : n + m ≤ c) : ∃ g, g.length = m * sz ∧ Owns H e sz oa (n + m) c (xs ++ g) := by
  rcases h.row with ⟨rfl, rfl, rfl⟩ | ⟨g, cur, rfl, hg, hnc, hcm, hcs, ht⟩
  · have : m = 0 := by omega
    subst this
    exact ⟨[], by simp, by simpa using h⟩
  · have hb2 : (n + m) * sz ≤ c * sz := Nat.mul_le_mul_right _ hm
    rw [Nat.add_mul] at hb2
    refine ⟨(cur.toList.drop (n * sz)).take (m * sz), by rw [List.length_take, List.length_drop, Array.length_toList]; omega, ⟨?_, .inr ⟨g, cur, rfl, hg, hm, hcm, hcs, ?_⟩⟩⟩
    · rw [List.length_append, h.len, List.length_take, List.length_drop, Array.length_toList, Nat.add_mul]; omega
    · rw [Nat.add_mul, List.take_add, ht]
/-- The length falls. -/
theorem Owns.cut {H : PHeap} {e : TypeId} {sz : Nat} {oa : Option Addr} {n c m : Nat} {xs : List Value} (h : Owns H e sz oa n c xs) (hm : m ≤ n) : Owns H e sz oa m c (xs.take (m * sz)) := by
  have hb : m * sz ≤ n * sz := Nat.mul_le_mul_right _ hm
  refine ⟨by rw [List.length_take, h.len]; omega, ?_⟩
  rcases h.row with ⟨rfl, rfl, rfl⟩ | ⟨g, cur, rfl, hg, hnc, hcm, hcs, ht⟩
  · exact .inl ⟨rfl, by omega, rfl⟩
  · exact .inr ⟨g, cur, rfl, hg, by omega, hcm, hcs, by rw [← ht, List.take_take, Nat.min_eq_left hb]⟩
theorem slA_zero (a : Option Addr) (m sz : Nat) : slA a 0 m sz = a := by
  unfold slA
  split
  · rfl
  · cases a with
    | none => rfl
    | some a => simp [Addr.add]
theorem slA_pos {a : Option Addr} {l : Int} {m sz : Nat} (h : l ≠ m) : slA a l m sz = elemA a l sz := by
  unfold slA elemA
  rw [if_neg (fun e => h e.symm)]
end Go.Vx
