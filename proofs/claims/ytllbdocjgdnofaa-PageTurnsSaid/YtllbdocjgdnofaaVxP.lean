/- The executor's use: the library's sort, from the kit's contract to a call's. -/
import Derived.Test.YtllbdocjgdnofaaVxO
import Derived.Sort.Grow
namespace Go.Vx
open Go.Sort

/-- The kit's contract of the sort of a row, and of no element. -/
structure SortC {α : Type} [Inhabited α] (P : Program) (f : FuncId) (enc : α → Value) (S : List α → List α) : Prop where
  row : ∀ (blk cap : Nat) (zs : List α) (w : World), Holds enc w blk 0 zs.toArray → blk < w.heap.size → zs.length < 4611686018427387904 → Calls P f #[.slice (some ⟨blk, 0, none⟩) zs.length cap] w fun e w' =>
    e = .returned (.tuple #[]) ∧ ∃ n os, w' = grow (putRow enc (Sort.ahead w n) blk 0 (S zs).toArray) os
  none : ∀ (cap : Nat) (w : World), Calls P f #[.slice .none 0 cap] w fun e w' => e = .returned (.tuple #[]) ∧ w' = w
  len : ∀ zs, (S zs).length = zs.length
theorem putCells_take {α : Type} [Inhabited α] (enc : α → Value) (l : List α) (c : Array Value) (h : l.length ≤ c.size) : (putCells enc 0 l.toArray c).toList.take l.length = l.map enc := by
  refine List.ext_getElem? fun i => ?_
  unfold putCells
  rw [List.getElem?_take, Array.toList_mapIdx, List.getElem?_mapIdx, List.getElem?_map]
  by_cases hi : i < l.length
  · rw [if_pos hi, Array.getElem?_toList, Array.getElem?_eq_getElem (by omega), List.getElem?_eq_getElem hi]
    simp [hi]
  · rw [if_neg hi, List.getElem?_eq_none (by omega)]
    rfl
theorem sort_ok {α : Type} [Inhabited α] {P : Program} {f : FuncId} {enc : α → Value} {S : List α → List α} (C : SortC P f enc S) {H : PHeap} {e : TypeId} {oa : Option Addr} {n c : Nat} {l : List α} (how : Owns H e 1 oa n c (l.map enc)) (hn : n ≤ 1000000) :
    Triple P f #[.slice oa n c] H fun v H' => v = .tuple #[] ∧ Owns H' e 1 oa n c ((S l).map enc) ∧ Frame oa H H' := by
  have hl : l.length = n := by have := how.len; simpa using this
  refine ⟨fun w hs => ?_⟩
  rcases how.row with ⟨rfl, rfl, rfl⟩ | ⟨g, cur, rfl, hg, hnc, hcm, hcs, ht⟩
  · have hl0 : l = [] := List.eq_nil_of_length_eq_zero hl
    subst hl0
    have hS : S [] = [] := List.eq_nil_of_length_eq_zero (C.len [])
    refine (C.none 0 w).mono ?_
    rintro e' w' ⟨rfl, rfl⟩
    exact ⟨_, H, rfl, Nx.refl hs, rfl, by rw [hS]; exact how, fun k o hk _ => hk⟩
  · have hgw := hs g _ hg
    have hlt := sees_lt hs hg
    rw [Nat.mul_one] at hcs ht
    have hH : Holds enc w g 0 l.toArray := by
      intro j hj
      have hj' : j < l.length := by simpa using hj
      have hcj : cur[j]? = some (enc l[j]) := by
        have h1 : (cur.toList.take n)[j]? = (l.map enc)[j]? := by rw [ht]
        rw [List.getElem?_take, if_pos (by omega), List.getElem?_map, List.getElem?_eq_getElem hj', Array.getElem?_toList] at h1
        simpa using h1
      refine ⟨?_, ?_⟩
      · simp only [World.cell?, Nat.zero_add, hgw]
        simp [hcj, hj']
      · simp [World.frozen?, hgw]
    have := C.row g c l w hH hlt (by omega)
    rw [hl] at this
    refine this.mono ?_
    rintro e' w' ⟨rfl, m, os, rfl⟩
    have get : ∀ k, k < w.heap.size → (grow (putRow enc (Sort.ahead w m) g 0 (S l).toArray) os).heap[k]? = if g = k then some (.cells (putCells enc 0 (S l).toArray cur) e (0, 0)) else w.heap[k]? := by
      intro k hk
      show ((mapBlock (Sort.ahead w m) g (putCells enc 0 (S l).toArray)).heap ++ os)[k]? = _
      have hsz : (mapBlock (Sort.ahead w m) g (putCells enc 0 (S l).toArray)).heap.size = w.heap.size := by simp [mapBlock]
      rw [Array.getElem?_append_left (by rw [hsz]; exact hk)]
      unfold mapBlock
      rw [Array.getElem?_modify]
      split
      · rename_i e1; subst e1
        show (w.heap[g]?).map _ = _
        rw [hgw]; rfl
      · rfl
    refine ⟨_, H.upd g (.cells (putCells enc 0 (S l).toArray cur) e (0, 0)), rfl, ⟨rfl, rfl, rfl, by simp, fun k hk hno => ?_, fun k hk => .inl fun hno => hk ?_, fun k o hk => ?_⟩, rfl, ⟨by simp [C.len, hl], .inr ⟨g, _, rfl, upd_eq .., hnc, hcm, ?_, ?_⟩⟩, fun k o hk hne => ?_⟩
    · rw [get k hk, if_neg (fun e1 => by rw [← e1, hg] at hno; cases hno)]
    · rw [upd_ne _ _ (fun e1 => by rw [e1, hg] at hno; cases hno)]; exact hno
    · by_cases e1 : k = g
      · subst e1
        rw [upd_eq] at hk
        rw [get k hlt, if_pos rfl]; exact hk
      · rw [upd_ne _ _ e1] at hk
        rw [get k (sees_lt hs hk), if_neg (fun e2 => e1 e2.symm)]
        exact hs k o hk
    · rw [Nat.mul_one, ← hcs]
      simp [putCells]
    · rw [Nat.mul_one]
      have := putCells_take enc (S l) cur (by rw [C.len, hl, hcs]; exact hnc)
      rwa [C.len, hl] at this
    · rw [upd_ne _ _ (hne _ rfl)]; exact hk
end Go.Vx
