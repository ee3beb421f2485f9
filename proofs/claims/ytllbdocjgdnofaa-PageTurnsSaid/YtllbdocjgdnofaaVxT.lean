/- The executor's use: variables in memory, elements that are written, new slices. -/
import Derived.Test.YtllbdocjgdnofaaVxS
import Derived.Laws.OwnMore
namespace Go.Vx

/-! ### A variable in memory -/
/-- The block b holds a variable of type t, whose cells these are. -/
def Bx (H : PHeap) (b : Nat) (t : TypeId) (l : List Value) : Prop := H b = some (.cells l.toArray t (0, 0))
theorem Bx.new (H : PHeap) (b : Nat) (t : TypeId) (l : List Value) : Bx (H.upd b (.cells l.toArray t (0, 0))) b t l := upd_eq ..
theorem Bx.upd {H : PHeap} {b k : Nat} {t : TypeId} {l : List Value} (h : Bx H b t l) (o : Obj) (hn : H k = none) : Bx (H.upd k o) b t l := by
  unfold Bx at *
  rw [upd_ne _ _ (fun e => by rw [← e, h] at hn; cases hn)]; exact h
theorem Bx.upd_ne {H : PHeap} {b k : Nat} {t : TypeId} {l : List Value} (h : Bx H b t l) (o : Obj) (hn : b ≠ k) : Bx (H.upd k o) b t l := by
  unfold Bx at *
  rw [Go.Vx.upd_ne _ _ hn]; exact h
theorem Bx.frame {H H' : PHeap} {b : Nat} {t : TypeId} {l : List Value} {oa : Option Addr} (h : Bx H b t l) (hf : Frame oa H H') (hn : ∀ a, oa = some a → b ≠ a.block) : Bx H' b t l := hf _ _ h hn
theorem Bx.sub {H H' : PHeap} {b : Nat} {t : TypeId} {l : List Value} (h : Bx H b t l) (hs : Sub H H') : Bx H' b t l := hs.le _ _ h
theorem Bx.reads {H : PHeap} {b : Nat} {t : TypeId} {l : List Value} (h : Bx H b t l) : Reads H (at0 b) l := by
  refine ⟨⟨_, rfl, fun i v hv => ?_⟩⟩
  unfold Bx at h
  simp only [Addr.add_lit, hcell, h]
  simpa using hv
theorem Bx.readsAt {H : PHeap} {b : Nat} {t : TypeId} {l l2 : List Value} (h : Bx H b t l) (off : Nat) (hl : ∀ (i : Nat) v, l2[i]? = some v → l[off + i]? = some v) : Reads H (fldA (at0 b) off) l2 := by
  refine ⟨⟨_, rfl, fun i v hv => ?_⟩⟩
  unfold Bx at h
  rw [hcell_add]
  simp only [Addr.add_lit, hcell, h]
  simpa using hl i v hv
theorem Bx.writes {H : PHeap} {b : Nat} {t : TypeId} {l : List Value} (h : Bx H b t l) (l2 : List Value) (hl : l2.length = l.length) : Writes H (H.upd b (.cells l2.toArray t (0, 0))) (at0 b) l2 := by
  refine ⟨⟨⟨b, 0, none⟩, l.toArray, t, 0, 0, rfl, rfl, h, by simp [hl], fun i _ => by omega, ?_⟩⟩
  congr 1
  simp [hl]
theorem Bx.sub_of {H H' : PHeap} {b : Nat} {o : Obj} (hs : Sub H H') (hn : H b = none) : Sub H (H'.upd b o) :=
  ⟨fun k o' hk => by rw [Go.Vx.upd_ne _ _ (fun e => by rw [e, hn] at hk; cases hk)]; exact hs.le k o' hk⟩

theorem Bx.rd {α : Type} {H : PHeap} {b : Nat} {t : TypeId} {E : α → List Value} {sz : Nat} (hE : ∀ x, (E x).length = sz) {l : List α} (h : Bx H b t (l.flatMap E)) : RdL H E sz (at0 b) l.length l := by
  refine ⟨rfl, (fun e => by cases e), fun i x hx => ?_⟩
  have := h.readsAt (i * sz) (l2 := E x) fun j v hv => flatMap_get hE l i x hx j v hv
  simpa [elemA, fldA] using this

/-! ### An element is written -/
theorem list_over {α : Type} : ∀ (l : List α) (i : Nat) (E : α → List Value) (sz : Nat) (x : α), (∀ x, (E x).length = sz) → i < l.length →
    (l.flatMap E).take (i * sz) ++ E x ++ (l.flatMap E).drop (i * sz + sz) = (l.set i x).flatMap E
  | y :: ys, 0, E, sz, x, hE, _ => by
    simp only [Nat.zero_mul, List.take_zero, List.nil_append, Nat.zero_add, List.flatMap_cons, List.set_cons_zero]
    rw [List.drop_left' (hE y)]
  | y :: ys, i + 1, E, sz, x, hE, hi => by
    simp only [List.flatMap_cons, List.set_cons_succ]
    have h := list_over ys i E sz x hE (by simpa using hi)
    rw [← h, Nat.add_mul, Nat.one_mul, Nat.add_comm (i * sz) sz, List.take_append, List.drop_append, hE]
    have e1 : (E y).take (sz + i * sz) = E y := List.take_of_length_le (by rw [hE]; omega)
    have e2 : (E y).drop (sz + i * sz + sz) = [] := List.drop_of_length_le (by rw [hE]; omega)
    rw [e1, e2, show sz + i * sz - sz = i * sz by omega, show sz + i * sz + sz - sz = i * sz + sz by omega]
    rw [Nat.add_comm sz (i * sz)]
    simp only [List.append_assoc, List.nil_append]
  | [], i, _, _, _, _, hi => by simp at hi
theorem Owns.set {α : Type} {H : PHeap} {e : TypeId} {E : α → List Value} {sz : Nat} (hE : ∀ x, (E x).length = sz) {oa : Option Addr} {n c : Nat} {l : List α} (h : OwnL H e E sz oa n c l) (hsz : 0 < sz) {i : Int} (h0 : 0 ≤ i) (hi : i < n) (x : α) :
    ∃ H', Writes H H' (elemA oa i sz) (E x) ∧ OwnL H' e E sz oa n c (l.set i.toNat x) ∧ Frame oa H H' := by
  have hlen := h.len
  rw [length_flatMap hE] at hlen
  have hll : l.length = n := Nat.eq_of_mul_eq_mul_right hsz hlen
  rcases h.row with ⟨_, e2, _⟩ | ⟨g, cur, rfl, hg, hnc, hcm, hcs, ht⟩
  · omega
  · have hin : i.toNat < n := by omega
    have hb : i.toNat * sz + sz ≤ n * sz := by rw [← Nat.succ_mul]; exact Nat.mul_le_mul_right _ hin
    have hb2 : n * sz ≤ c * sz := Nat.mul_le_mul_right _ hnc
    have hcur : cur.toList = l.flatMap E ++ cur.toList.drop (n * sz) := by rw [← ht, List.take_append_drop]
    have hfl : (l.flatMap E).length = n * sz := h.len
    have key : cur.toList.take (i.toNat * sz) ++ E x ++ cur.toList.drop (i.toNat * sz + (E x).length) = (l.set i.toNat x).flatMap E ++ cur.toList.drop (n * sz) := by
      rw [hE, ← list_over l i.toNat E sz x hE (by omega)]
      conv => lhs; rw [hcur]
      rw [List.take_append_of_le_length (by omega), List.drop_append_of_le_length (by omega)]
      simp [List.append_assoc]
    refine ⟨H.upd g (.cells ((l.set i.toNat x).flatMap E ++ cur.toList.drop (n * sz)).toArray e (0, 0)), ⟨⟨⟨g, i.toNat * sz, none⟩, cur, e, 0, 0, ?_, rfl, hg, by simp only [hE]; omega, fun _ _ => by omega, by simp only [key]⟩⟩, ⟨?_, .inr ⟨g, _, rfl, upd_eq .., hnc, hcm, ?_, ?_⟩⟩, fun k o hk hne => ?_⟩
    · simp [elemA, Addr.add_lit]
    · rw [length_flatMap hE, List.length_set, hll]
    · simp only [List.size_toArray, List.length_append, length_flatMap hE, List.length_set, hll, List.length_drop, Array.length_toList, hcs]
      omega
    · rw [List.take_left' (by rw [length_flatMap hE, List.length_set, hll])]
    · rw [Go.Vx.upd_ne _ _ (hne _ rfl)]; exact hk

theorem part_list {α : Type} {p A old B q l2 : List α} (hl : old.length = l2.length) :
    (p ++ (A ++ old ++ B) ++ q).take (p.length + A.length) = p ++ A ∧ (p ++ (A ++ old ++ B) ++ q).drop (p.length + A.length + l2.length) = B ++ q ∧
    (p ++ (A ++ old ++ B) ++ q).take p.length = p ∧ (p ++ (A ++ old ++ B) ++ q).drop (p.length + (A ++ l2 ++ B).length) = q := by
  have h1 : p ++ (A ++ old ++ B) ++ q = (p ++ A) ++ (old ++ (B ++ q)) := by simp
  have h2 : p ++ (A ++ old ++ B) ++ q = (p ++ A ++ old) ++ (B ++ q) := by simp
  have h3 : p ++ (A ++ old ++ B) ++ q = p ++ ((A ++ old ++ B) ++ q) := by simp
  have h4 : p ++ (A ++ old ++ B) ++ q = (p ++ (A ++ old ++ B)) ++ q := rfl
  refine ⟨?_, ?_, ?_, ?_⟩
  · rw [h1, List.take_left' (by simp)]
  · rw [h2, List.drop_left' (by simp only [List.length_append, hl])]
  · rw [h3, List.take_left' rfl]
  · rw [h4, List.drop_left' (by simp only [List.length_append, hl])]
/-- A part of an element is written. -/
theorem Writes.part {H H' : PHeap} {oa : Option Addr} {A l2 B old : List Value} (hw : Writes H H' oa (A ++ l2 ++ B)) (hrd : Reads H oa (A ++ old ++ B)) (hl : old.length = l2.length) : Writes H H' (fldA oa A.length) l2 := by
  obtain ⟨a, c, e, lo, hi, rfl, hsp, hH, hfit, hfz, rfl⟩ := hw.out
  obtain ⟨a', ha', hg⟩ := hrd.out
  cases ha'
  obtain ⟨blk, off, sp⟩ := a
  simp only at hsp hH hfit hfz hg
  subst hsp
  have hll : (A ++ l2 ++ B).length = A.length + l2.length + B.length := by simp only [List.length_append]
  have hlo : (A ++ old ++ B).length = A.length + l2.length + B.length := by simp only [List.length_append, hl]
  rw [hll] at hfit hfz
  have hc : (c.toList.drop off).take (A ++ old ++ B).length = A ++ old ++ B := by
    refine List.ext_getElem? fun i => ?_
    rw [List.getElem?_take]
    split
    · rename_i hi
      have h1 := hg i _ (List.getElem?_eq_getElem hi)
      rw [List.getElem?_eq_getElem hi, ← h1, Addr.add_lit, hcell, hH]
      simp
    · rw [List.getElem?_eq_none (by omega)]
  obtain ⟨p, q, hp, hcq⟩ : ∃ p q, p.length = off ∧ c.toList = p ++ (A ++ old ++ B) ++ q :=
    ⟨c.toList.take off, (c.toList.drop off).drop (A ++ old ++ B).length, by rw [List.length_take, Array.length_toList]; omega, by
      conv => lhs; rw [← List.take_append_drop off c.toList, ← List.take_append_drop (A ++ old ++ B).length (c.toList.drop off), hc]
      simp only [List.append_assoc]⟩
  obtain ⟨g1, g2, g3, g4⟩ := part_list (p := p) (A := A) (B := B) (q := q) hl
  refine ⟨⟨⟨blk, off + A.length, none⟩, c, e, lo, hi, by simp [fldA, Addr.add_lit], rfl, hH, by simp only; omega, fun i hi' => ?_, ?_⟩⟩
  · have := hfz (A.length + i) (by omega)
    simp only at this ⊢
    omega
  · simp only [hcq, ← hp, g1, g2, g3, g4]
    simp [List.append_assoc]
theorem Reads.frame {H H' : PHeap} {oa ob : Option Addr} {l : List Value} (h : Reads H oa l) (hf : Frame ob H H') (hn : ∀ a b, oa = some a → ob = some b → a.block ≠ b.block) : Reads H' oa l := by
  obtain ⟨a, rfl, hg⟩ := h.out
  refine ⟨⟨a, rfl, fun i v hv => hcell_mono (fun o ho => hf _ o ho fun b hb => ?_) (hg i v hv)⟩⟩
  have := hn a b rfl hb
  unfold Addr.add
  split <;> simpa using this
theorem RdL.frame {α : Type} {H H' : PHeap} {E : α → List Value} {sz : Nat} {oa ob : Option Addr} {n : Nat} {l : List α} (h : RdL H E sz oa n l) (hf : Frame ob H H') (hn : ∀ a b, oa = some a → ob = some b → a.block ≠ b.block) : RdL H' E sz oa n l := by
  refine ⟨h.len, h.pos, fun i x hx => (h.get i x hx).frame hf fun a b ha hb => ?_⟩
  cases oa with
  | none => simp [elemA] at ha
  | some a0 =>
    simp [elemA] at ha
    subst ha
    have := hn a0 b rfl hb
    unfold Addr.add
    split <;> simpa using this

/-! ### A new slice -/
theorem makeSlice_own {P : Program} {t e : TypeId} {sz bytes : Nat} (T : ElemT P t e sz bytes) {H : PHeap} {α : Type} {E : α → List Value} {Z : α} {n : Nat} {k1 k2 : IntKind} (hZ : ∀ i z, P.info? e = some i → i.zero = some z → z.cells.toList = E Z) (hE : (E Z).length = sz)
    (hb : bytes * n ≤ 281474976710656) (h63 : n ≤ maxLen) {K : Value → PHeap → Prop} (hK : ∀ b H', H b = none → OwnL H' e E sz (at0 b) n n (List.replicate n Z) → Frame none H H' → K (.slice (at0 b) n n) H') :
    EvV P (Instr.makeSlice t (.int k1 (n : Int)) (.int k2 (n : Int))) H K := by
  obtain ⟨i, z, hi, hz, hsz, hby, hzs⟩ := T.info
  refine ⟨fun w hs => ?_⟩
  obtain ⟨w', hr, ho, hg⟩ := run_make_full (P := P) w w.heap.size t e i z sz T.under hi hz hsz k1 k2 n (by rw [hby]; exact hb) h63 (Nat.le_refl _)
  rcases ho.2 with ⟨e1, _⟩ | ⟨g, cap, cur, e1, hbg, hgc, hnc, hcm, hcs, htk⟩
  · cases e1
  · injection e1 with e1 _ e2
    injection e1 with e1
    injection e1 with e1
    subst e1 e2
    have hz' := hZ i z hi hz
    have hmade : (madeCells z.cells (n * sz)).toList = (List.replicate n Z).flatMap E := by
      have h1 := flatten_range z.cells.toList sz (by rw [Array.length_toList]; exact hzs) n
      have h2 : (List.replicate n Z).flatMap E = (List.replicate n z.cells.toList).flatten := by rw [List.flatMap_def, List.map_replicate, hz']
      rw [h2, ← h1]
      unfold madeCells
      rw [Array.toList_map, Array.toList_range]
      simp [hzs]
    refine ⟨_, w', _, hr, grown_frame hs hg (fun _ h => by cases h) hgc hbg rfl, hK _ _ (sees_none hs (Nat.le_refl _)) ⟨by rw [← hmade]; exact ho.1, .inr ⟨_, cur, rfl, upd_eq .., hnc, hcm, hcs, by rw [htk, hmade]⟩⟩ fun k o hk _ => ?_⟩
    rw [Go.Vx.upd_ne _ _ (fun e => by have := sees_lt hs hk; omega)]; exact hk
end Go.Vx
