/- The executor's use: slices that are read, slices that are the call's own, and 'append'. -/
import Derived.Test.YtllbdocjgdnofaaVxU
import Derived.ArgAppend
import Derived.Lib.AppendStr
namespace Go.Vx

theorem wrap64 {n : Int} (h1 : -9223372036854775808 ≤ n) (h2 : n ≤ 9223372036854775807) : IntKind.i64.wrap n = n := by
  simp [IntKind.wrap, IntKind.bits, IntKind.signed]
  omega

/-! ### Cells -/
theorem hcell_add (H : PHeap) (a : Addr) (n i : Nat) : hcell H ((a.add n).add i) = hcell H (a.add (n + i)) := by
  rw [Addr.add_add]
theorem hcell_mono {H H' : PHeap} {a : Addr} {v : Value} (h : ∀ o, H a.block = some o → H' a.block = some o) (hc : hcell H a = some v) : hcell H' a = some v := by
  unfold hcell at *
  cases hb : H a.block with
  | none => rw [hb] at hc; cases hc
  | some o => rw [h o hb]; rw [hb] at hc; exact hc
theorem hcell_world {H : PHeap} {w : World} (hs : Sees H w) {a : Addr} {v : Value} (hc : hcell H a = some v) : w.cell? a = some v := by
  unfold hcell at hc
  unfold World.cell?
  cases hb : H a.block with
  | none => rw [hb] at hc; cases hc
  | some o => rw [hs _ _ hb]; rw [hb] at hc; cases o <;> simp_all
theorem Reads.mono {H H' : PHeap} (hs : Sub H H') {oa : Option Addr} {l : List Value} (h : Reads H oa l) : Reads H' oa l := by
  obtain ⟨a, e, h⟩ := h.out
  exact ⟨a, e, fun i v hv => hcell_mono (hs.le _) (h i v hv)⟩

theorem Reads.fld {H : PHeap} {oa : Option Addr} {l l2 : List Value} (h : Reads H oa l) (off : Nat) (hl : ∀ (i : Nat) v, l2[i]? = some v → l[off + i]? = some v) : Reads H (fldA oa off) l2 := by
  obtain ⟨a, rfl, hg⟩ := h.out
  exact ⟨⟨_, rfl, fun i v hv => by rw [hcell_add]; exact hg _ _ (hl i v hv)⟩⟩

/-! ### What is known of the blocks but one -/
/-- All known blocks but the one of oa are as they were. -/
def Frame (oa : Option Addr) (H H' : PHeap) : Prop := ∀ k o, H k = some o → (∀ a, oa = some a → k ≠ a.block) → H' k = some o
/-- The block of oa' is the one of oa, or was not known. -/
def Fresh (oa oa' : Option Addr) (H : PHeap) : Prop := ∀ a', oa' = some a' → (∃ a, oa = some a ∧ a.block = a'.block) ∨ H a'.block = none
/-- A slice's block lies beyond a part of the heap. -/
def Off (F : PHeap) (oa : Option Addr) : Prop := ∀ a, oa = some a → F a.block = none
theorem Off.none (F : PHeap) : Off F .none := fun _ h => by cases h
theorem Frame.sub {oa : Option Addr} {F H H' : PHeap} (h : Frame oa H H') (hs : Sub F H) (ho : Off F oa) : Sub F H' :=
  ⟨fun k o hk => h k o (hs.le k o hk) (fun a ha e => by rw [e, ho a ha] at hk; cases hk)⟩
theorem Fresh.off {oa oa' : Option Addr} {F H : PHeap} (h : Fresh oa oa' H) (hs : Sub F H) (ho : Off F oa) : Off F oa' := by
  intro a' ha'
  rcases h a' ha' with ⟨a, ha, e⟩ | hn
  · rw [← e]; exact ho a ha
  · cases hk : F a'.block with
    | none => rfl
    | some o => rw [hs.le _ _ hk] at hn; cases hn

/-! ### Slices that are read -/
/-- At oa on lie the elements of l, each E's cells, sz of them. -/
structure RdL {α : Type} (H : PHeap) (E : α → List Value) (sz : Nat) (oa : Option Addr) (n : Nat) (l : List α) : Prop where
  len : l.length = n
  pos : oa = none → n = 0
  get : ∀ (i : Nat) x, l[i]? = some x → Reads H (elemA oa i sz) (E x)
theorem RdL.mono {α : Type} {H H' : PHeap} {E : α → List Value} {sz : Nat} {oa : Option Addr} {n : Nat} {l : List α} (hs : Sub H H') (h : RdL H E sz oa n l) : RdL H' E sz oa n l :=
  ⟨h.len, h.pos, fun i x hx => (h.get i x hx).mono hs⟩
theorem RdL.nil {α : Type} (H : PHeap) (E : α → List Value) (sz : Nat) : RdL H E sz none 0 ([] : List α) := ⟨rfl, fun _ => rfl, fun i x h => by simp at h⟩
theorem RdL.at {α : Type} {H : PHeap} {E : α → List Value} {sz : Nat} {oa : Option Addr} {n : Nat} {l : List α} (h : RdL H E sz oa n l) {i : Int} {x : α} (h0 : 0 ≤ i) (hx : l[i.toNat]? = some x) : Reads H (elemA oa i sz) (E x) := by
  have := h.get i.toNat x hx
  rwa [show ((i.toNat : Nat) : Int) = i by omega] at this
theorem RdL.ne {α : Type} {H : PHeap} {E : α → List Value} {sz : Nat} {oa : Option Addr} {n : Nat} {l : List α} (h : RdL H E sz oa n l) {i : Int} (h0 : 0 ≤ i) (hi : i < n) : oa ≠ none := fun e => by
  have := h.pos e
  omega
theorem RdL.ob {α : Type} {H : PHeap} {E : α → List Value} {sz : Nat} {oa : Option Addr} {n : Nat} {l : List α} (h : RdL H E sz oa n l) {i : Int} (h0 : 0 ≤ i) (hi : i < n) : Ob (oa ≠ none ∧ 0 ≤ i ∧ i < n) := ⟨h.ne h0 hi, h0, hi⟩
theorem RdL.ex {α : Type} {H : PHeap} {E : α → List Value} {sz : Nat} {oa : Option Addr} {n : Nat} {l : List α} (h : RdL H E sz oa n l) {i : Int} (h0 : 0 ≤ i) (hi : i < n) : ∃ x, l[i.toNat]? = some x ∧ Reads H (elemA oa i sz) (E x) := by
  have hl : i.toNat < l.length := by have := h.len; omega
  exact ⟨l[i.toNat], List.getElem?_eq_getElem hl, h.at h0 (List.getElem?_eq_getElem hl)⟩
theorem RdL.elem_ne {α : Type} {H : PHeap} {E : α → List Value} {sz : Nat} {oa : Option Addr} {n : Nat} {l : List α} (h : RdL H E sz oa n l) {i : Int} (h0 : 0 ≤ i) (hi : i < n) : elemA oa i sz ≠ none := by
  have := h.ne h0 hi
  cases oa with
  | none => exact absurd rfl this
  | some a => simp [elemA]

/-! ### Slices that are the call's own -/
structure Owns (H : PHeap) (e : TypeId) (size : Nat) (oa : Option Addr) (n c : Nat) (xs : List Value) : Prop where
  len : xs.length = n * size
  row : (oa = none ∧ n = 0 ∧ c = 0) ∨ ∃ g cur, oa = some ⟨g, 0, none⟩ ∧ H g = some (.cells cur e (0, 0)) ∧ n ≤ c ∧ c ≤ maxLen ∧ cur.size = c * size ∧ cur.toList.take (n * size) = xs
theorem Owns.nil (H : PHeap) (e : TypeId) (size : Nat) : Owns H e size none 0 0 [] := ⟨by simp, .inl ⟨rfl, rfl, rfl⟩⟩
theorem Owns.mono {H H' : PHeap} {e : TypeId} {size : Nat} {oa : Option Addr} {n c : Nat} {xs : List Value} (h : Owns H e size oa n c xs) (hs : ∀ a o, oa = some a → H a.block = some o → H' a.block = some o) : Owns H' e size oa n c xs := by
  refine ⟨h.len, h.row.imp id ?_⟩
  rintro ⟨g, cur, e1, e2, e3⟩
  exact ⟨g, cur, e1, hs _ _ e1 e2, e3⟩
theorem Owns.cell {H : PHeap} {e : TypeId} {size : Nat} {a : Addr} {n c : Nat} {xs : List Value} (h : Owns H e size (some a) n c xs) : ∀ (j : Nat) u, xs[j]? = some u → hcell H (a.add j) = some u := by
  rcases h.row with ⟨e1, _⟩ | ⟨g, cur, e1, hg, _, _, _, ht⟩
  · cases e1
  · cases e1
    intro j u hj
    rw [← ht] at hj
    have hjl := (List.getElem?_eq_some_iff.1 hj).1
    simp at hjl
    rw [List.getElem?_take_of_lt (by omega)] at hj
    unfold hcell
    rw [Addr.add_lit]
    simp [hg]
    simpa using hj
theorem flatMap_get {α : Type} {E : α → List Value} {sz : Nat} (hE : ∀ x, (E x).length = sz) : ∀ (l : List α) (i : Nat) (x : α), l[i]? = some x → ∀ (j : Nat) v, (E x)[j]? = some v → (l.flatMap E)[i * sz + j]? = some v
  | [], i, x, h, _, _, _ => by simp at h
  | y :: ys, 0, x, h, j, v, hv => by
    simp at h
    subst h
    rw [List.flatMap_cons, List.getElem?_append_left (by rw [Nat.zero_mul, Nat.zero_add]; exact (List.getElem?_eq_some_iff.1 hv).1)]
    simpa using hv
  | y :: ys, i + 1, x, h, j, v, hv => by
    simp at h
    rw [List.flatMap_cons, List.getElem?_append_right (by rw [hE, Nat.add_mul]; omega), hE, show (i + 1) * sz + j - sz = i * sz + j by rw [Nat.add_mul]; omega]
    exact flatMap_get hE ys i x h j v hv
/-- A slice of the call's own, of elements of a kind. -/
abbrev OwnL {α : Type} (H : PHeap) (e : TypeId) (E : α → List Value) (sz : Nat) (oa : Option Addr) (n c : Nat) (l : List α) : Prop := Owns H e sz oa n c (l.flatMap E)
theorem length_flatMap {α : Type} {E : α → List Value} {sz : Nat} (hE : ∀ x, (E x).length = sz) (l : List α) : (l.flatMap E).length = l.length * sz := by
  induction l with
  | nil => simp
  | cons x xs ih => rw [List.flatMap_cons, List.length_append, ih, hE, List.length_cons, Nat.add_mul]; omega
theorem Owns.rd {α : Type} {H : PHeap} {e : TypeId} {E : α → List Value} {sz : Nat} (hsz : 0 < sz) (hE : ∀ x, (E x).length = sz) {oa : Option Addr} {n c : Nat} {l : List α} (h : OwnL H e E sz oa n c l) : RdL H E sz oa n l := by
  have hlen := h.len
  rw [length_flatMap hE] at hlen
  refine ⟨Nat.eq_of_mul_eq_mul_right hsz hlen, fun e1 => ?_, fun i x hx => ?_⟩
  · subst e1
    rcases h.row with ⟨_, e2, _⟩ | ⟨_, _, e2, _⟩
    · exact e2
    · cases e2
  · cases oa with
    | none =>
      rcases h.row with ⟨_, e2, _⟩ | ⟨_, _, e2, _⟩
      · subst e2
        have : l = [] := List.eq_nil_of_length_eq_zero (by have := Nat.eq_of_mul_eq_mul_right hsz hlen; omega)
        subst this
        simp at hx
      · cases e2
    | some a =>
      refine ⟨⟨a.add (i * sz), by simp [elemA], fun j v hv => ?_⟩⟩
      rw [hcell_add]
      exact h.cell _ _ (flatMap_get hE l i x hx j v hv)

/-! ### append -/
/-- What 'append' must know of the element's type. -/
structure ElemT (P : Program) (t e : TypeId) (sz bytes : Nat) : Prop where
  under : P.underlying t = some (.slice e)
  info : ∃ i z, P.info? e = some i ∧ i.zero = some z ∧ i.size = sz ∧ i.bytes = bytes ∧ z.cells.size = sz
  pos : 0 < sz
def elemTB (P : Program) (t e : TypeId) (sz bytes : Nat) : Bool :=
  (match P.underlying t with
    | some (.slice e') => e' == e
    | _ => false) && decide (0 < sz) && (match P.info? e with
    | some i => match i.zero with
      | some z => i.size == sz && i.bytes == bytes && z.cells.size == sz
      | none => false
    | none => false)
theorem ElemT.of {P : Program} {t e : TypeId} {sz bytes : Nat} (h : elemTB P t e sz bytes = true) : ElemT P t e sz bytes := by
  unfold elemTB at h
  simp only [Bool.and_eq_true, decide_eq_true_eq] at h
  obtain ⟨⟨h1, h2⟩, h3⟩ := h
  split at h1
  · split at h3
    · split at h3
      · rename_i _ e' he _ i hi _ z hz
        simp only [Bool.and_eq_true, beq_iff_eq] at h1 h3
        exact ⟨by rw [he, h1], ⟨i, z, hi, hz, h3.1.1, h3.1.2, h3.2⟩, h2⟩
      · cases h3
    · cases h3
  · cases h1
theorem grown_frame {H : PHeap} {w w' : World} {row : Option Nat} (hs : Sees H w) (hg : w.grownBy w' row) (hrow : ∀ k, row = some k → H k ≠ none) {g : Nat} {o : Obj} (hgo : w'.heap[g]? = some o) (hnew : w.heap.size ≤ g) (hr : row = none) :
    Nx H (H.upd g o) w w' := by
  subst hr
  refine ⟨hg.os, hg.tape, hg.output, hg.size, fun k hk _ => hg.block k hk (by simp), fun k hk => ?_, fun k o' hk => ?_⟩
  · unfold PHeap.upd at hk
    split at hk
    · rename_i e; right; omega
    · exact .inl hk
  · unfold PHeap.upd at hk
    split at hk
    · rename_i e; cases hk; rw [e]; exact hgo
    · have hkl : k < w.heap.size := by
        have := hs k o' hk
        exact (Array.getElem?_eq_some_iff.1 this).1
      rw [hg.block k hkl (by simp)]
      exact hs k o' hk
theorem sees_lt {H : PHeap} {w : World} (hs : Sees H w) {k : Nat} {o : Obj} (h : H k = some o) : k < w.heap.size := (Array.getElem?_eq_some_iff.1 (hs k o h)).1
theorem sees_none {H : PHeap} {w : World} (hs : Sees H w) {k : Nat} (h : w.heap.size ≤ k) : H k = none := by
  cases hk : H k with
  | none => rfl
  | some o => have := sees_lt hs hk; omega
theorem upd_eq (H : PHeap) (b : Nat) (o : Obj) : H.upd b o b = some o := by simp [PHeap.upd]
theorem upd_ne (H : PHeap) {b k : Nat} (o : Obj) (h : k ≠ b) : H.upd b o k = H k := by simp [PHeap.upd, h]
theorem setRow_nx {H : PHeap} {w : World} (hs : Sees H w) {g : Nat} {cur : Array Value} {e : TypeId} {fz : Nat × Nat} (hg : H g = some (.cells cur e fz)) (c : Array Value) :
    Nx H (H.upd g (.cells c e fz)) w (w.setRow g c) := by
  have hgl := sees_lt hs hg
  have hgw := hs g _ hg
  have get : ∀ k, (w.setRow g c).heap[k]? = if g = k then some (.cells c e fz) else w.heap[k]? := by
    intro k
    unfold World.setRow
    simp only [Array.getElem?_modify]
    split
    · rename_i e1; subst e1; rw [hgw]; rfl
    · rfl
  refine ⟨rfl, rfl, rfl, by simp [World.setRow], fun k hk hn => ?_, fun k hk => .inl fun hn => hk ?_, fun k o hk => ?_⟩
  · rw [get, if_neg (fun e1 => by rw [← e1, hg] at hn; cases hn)]
  · rw [upd_ne _ _ (fun e1 => by rw [e1, hg] at hn; cases hn)]; exact hn
  · rw [get]
    by_cases e1 : k = g
    · subst e1
      rw [upd_eq] at hk
      rw [if_pos rfl]
      exact hk
    · rw [upd_ne _ _ e1] at hk
      rw [if_neg (fun e2 => e1 e2.symm)]
      exact hs k o hk
theorem append_own {P : Program} {t ty e : TypeId} {sz bytes : Nat} (T : ElemT P t e sz bytes) {H : PHeap} {oa : Option Addr} {n c : Nat} {xs : List Value} (hown : Owns H e sz oa n c xs)
    {a : Addr} {m c2 : Nat} {news : List Value} (hl : news.length = m * sz) (hnews : ∀ (j : Nat) u, news[j]? = some u → hcell H (a.add j) = some u) (h1 : ∀ u ∈ news, u.oneCell' = true)
    (h63 : n + m ≤ maxLen) (hbytes : (n + m) * bytes ≤ 140737488355328) {K : Value → PHeap → Prop}
    (hK : ∀ oa' c' H', Owns H' e sz oa' (n + m) c' (xs ++ news) → Frame oa H H' → Fresh oa oa' H → (oa' = none → oa = none ∧ m = 0) → K (.slice oa' (n + m) c') H') :
    EvV P (Builtin.append_ #[t, t] ty #[.slice oa n c, .slice (some a) m c2]) H K := by
  obtain ⟨i, z, hi, hz, hsz, hby, hzs⟩ := T.info
  refine ⟨fun w hs => ?_⟩
  have hnw : ∀ (j : Nat) u, news[j]? = some u → w.cell? (a.add j) = some u := fun j u hj => hcell_world hs (hnews j u hj)
  have hlen : (xs ++ news).length = (n + m) * sz := by rw [List.length_append, hown.len, hl, Nat.add_mul]
  -- the arm that grows: a new row
  have fin : ∀ v' w', w'.ownsRow w.heap.size e sz v' (n + m) (xs ++ news) → w.grownBy w' none → (v' = .slice none 0 0 → oa = none ∧ m = 0) → ∃ H', Nx H H' w w' ∧ K v' H' := by
    intro v' w' ho hg hz'
    rcases ho.2 with ⟨rfl, e0⟩ | ⟨g, cap, cur, rfl, hbg, hgc, hnc, hcm, hcs, htk⟩
    · have hx : xs ++ news = [] := List.eq_nil_of_length_eq_zero (by rw [hlen, e0]; simp)
      obtain ⟨e1, e2⟩ := hz' rfl
      refine ⟨H, ⟨hg.os, hg.tape, hg.output, hg.size, fun k hk _ => hg.block k hk (by simp), fun k hk => .inl hk, fun k o hk => by rw [hg.block k (sees_lt hs hk) (by simp)]; exact hs k o hk⟩, ?_⟩
      have hq := hK none 0 H ⟨hlen, .inl ⟨rfl, e0, rfl⟩⟩ (fun k o hk _ => hk) (fun _ h => by cases h) (fun _ => ⟨e1, e2⟩)
      rwa [e0] at hq
    · refine ⟨H.upd g (.cells cur e (0, 0)), grown_frame hs hg (fun _ h => by cases h) hgc hbg rfl, hK _ _ _ ⟨hlen, .inr ⟨g, cur, rfl, upd_eq .., hnc, hcm, hcs, htk⟩⟩ (fun k o hk _ => ?_) (fun a' e => ?_) (fun e => by cases e)⟩
      · rw [upd_ne _ _ (fun e => by have := sees_lt hs hk; omega)]
        exact hk
      · cases e
        exact .inr (sees_none hs hbg)
  rcases hown.row with ⟨rfl, rfl, rfl⟩ | ⟨g, cur, rfl, hg, hnc, hcm, hcs, htk⟩
  · have hx : xs = [] := List.eq_nil_of_length_eq_zero (by rw [hown.len]; simp)
    subst hx
    obtain ⟨v', w', hrun, ho, hgr, hiff⟩ := run_append_own (P := P) w w.heap.size t ty e i z sz bytes T.under hi hz hsz hby hzs T.pos (.slice none 0 0) 0 [] (World.ownsRow_nil w _ e sz) a m c2 news hl hnw h1 h63 hbytes (Nat.le_refl _)
    obtain ⟨H', h2, h3⟩ := fin v' w' ho hgr (fun e => ⟨rfl, (hiff.1 e).2⟩)
    exact ⟨v', w', H', hrun, h2, h3⟩
  · have hgw := hs g _ hg
    by_cases hr : n + m ≤ c
    · have hfit : n * i.size + news.length ≤ cur.size := by rw [hsz, hl, hcs, ← Nat.add_mul]; exact Nat.mul_le_mul_right _ hr
      have hrun := run_append_room (P := P) w t ty e i T.under hi g n c cur hgw a m c2 news (by rw [hsz]; exact hl) hnw h1 hr hfit
      refine ⟨_, _, H.upd g (.cells (cur.toList.take (n * i.size) ++ news ++ cur.toList.drop (n * i.size + news.length)).toArray e (0, 0)), hrun, ?_, hK _ _ _ ⟨hlen, .inr ⟨g, _, rfl, upd_eq .., hr, hcm, ?_, ?_⟩⟩ (fun k o hk hne => by rw [upd_ne _ _ (hne _ rfl)]; exact hk) (fun a' e => .inl ⟨_, rfl, by cases e; rfl⟩) (fun e => by cases e)⟩
      · exact setRow_nx hs hg _
      · simp only [List.size_toArray, List.length_append, List.length_take, List.length_drop, Array.length_toList, hsz] at *
        omega
      · simp only [hsz] at *
        have e1 : (cur.toList.take (n * sz) ++ news).length = (n + m) * sz := by
          simp only [List.length_append, List.length_take, Array.length_toList, hl, hcs, Nat.add_mul] at *
          have : n * sz ≤ c * sz := Nat.mul_le_mul_right _ hnc
          omega
        rw [← e1, List.take_left, htk]
    · obtain ⟨v', w', hrun, ho, hgr⟩ := run_append_arg_grows (P := P) w t ty e i z sz bytes T.under hi hz hsz hby hzs T.pos ⟨g, 0, none⟩ n c xs hown.len (fun j u hj => hcell_world hs (hown.cell j u hj)) a m c2 news hl hnw (by omega) h63 hbytes
      obtain ⟨H', h2, h3⟩ := fin v' w' ho hgr (fun e => by
        rcases ho.2 with ⟨_, e0⟩ | ⟨g', _, _, e1, _⟩
        · omega
        · rw [e1] at e; cases e)
      exact ⟨v', w', H', hrun, h2, h3⟩
theorem flatMap_split {α : Type} {E : α → List Value} {sz : Nat} (hE : ∀ x, (E x).length = sz) : ∀ (l : List α) (j : Nat) (u : Value), (l.flatMap E)[j]? = some u → ∃ i x r, l[i]? = some x ∧ (E x)[r]? = some u ∧ j = i * sz + r
  | [], j, u, h => by simp at h
  | y :: ys, j, u, h => by
    rw [List.flatMap_cons] at h
    by_cases hj : j < (E y).length
    · rw [List.getElem?_append_left hj] at h
      exact ⟨0, y, j, rfl, h, by simp⟩
    · rw [List.getElem?_append_right (by omega)] at h
      obtain ⟨i, x, r, h1, h2, h3⟩ := flatMap_split hE ys _ u h
      rw [hE] at h3 hj
      exact ⟨i + 1, x, r, h1, h2, by rw [Nat.add_mul]; omega⟩
theorem RdL.flat {α : Type} {H : PHeap} {E : α → List Value} {sz : Nat} (hE : ∀ x, (E x).length = sz) {a : Addr} {n : Nat} {l : List α} (h : RdL H E sz (some a) n l) : ∀ (j : Nat) u, (l.flatMap E)[j]? = some u → hcell H (a.add j) = some u := by
  intro j u hj
  obtain ⟨i, x, r, h1, h2, rfl⟩ := flatMap_split hE l j u hj
  obtain ⟨b, hb, hg⟩ := (h.get i x h1).out
  simp [elemA] at hb
  subst hb
  have := hg r u h2
  rwa [hcell_add] at this
/-- A slice that is read, behind one of the call's own. -/
theorem append_rd {P : Program} {t ty e : TypeId} {sz bytes : Nat} (T : ElemT P t e sz bytes) {H : PHeap} {oa : Option Addr} {n c : Nat} {α : Type} {E : α → List Value} (hE : ∀ x, (E x).length = sz) {l l2 : List α} (hown : OwnL H e E sz oa n c l)
    {a2 : Option Addr} {m c2 : Nat} (hrd : RdL H E sz a2 m l2) (h1 : ∀ x, ∀ u ∈ E x, u.oneCell' = true) (h63 : n + m ≤ maxLen) (hbytes : (n + m) * bytes ≤ 140737488355328) {K : Value → PHeap → Prop}
    (hK : ∀ oa' c' H', OwnL H' e E sz oa' (n + m) c' (l ++ l2) → Frame oa H H' → Fresh oa oa' H → K (.slice oa' (n + m) c') H') :
    EvV P (Builtin.append_ #[t, t] ty #[.slice oa n c, .slice a2 m c2]) H K := by
  cases a2 with
  | some a =>
    refine append_own T hown (news := l2.flatMap E) (by rw [length_flatMap hE, hrd.len]) (hrd.flat hE) (fun u hu => ?_) h63 hbytes fun oa' c' H' g1 g2 g3 _ => hK oa' c' H' (by simpa [OwnL, List.flatMap_append] using g1) g2 g3
    obtain ⟨x, _, hx⟩ := List.mem_flatMap.1 hu
    exact h1 x u hx
  | none =>
    have hm := hrd.pos rfl
    subst hm
    have hl2 : l2 = [] := List.eq_nil_of_length_eq_zero hrd.len
    subst hl2
    obtain ⟨i, z, hi, hz, hsz, hby, hzs⟩ := T.info
    refine ⟨fun w hs => ⟨.slice oa n c, w, H, ?_, Nx.refl hs, ?_⟩⟩
    · rcases hown.row with ⟨rfl, rfl, rfl⟩ | ⟨g, cur, rfl, _, hnc, _⟩
      · simp [Builtin.append_, run_underlying T.under, sizeOf, typeInfo, hi, Builtin.lenOf, Builtin.firstCells]
      · simp [Builtin.append_, run_underlying T.under, sizeOf, typeInfo, hi, Builtin.lenOf, Builtin.firstCells, hnc, storeCells]
    · have := hK oa c H (by simpa using hown) (fun _ _ h _ => h) (fun a' h => .inl ⟨a', h, rfl⟩)
      simpa using this
/-- One element more: the executor hands it over in a block of its own. -/
theorem append_one {P : Program} {t ty e : TypeId} {sz bytes : Nat} (T : ElemT P t e sz bytes) {H : PHeap} {oa : Option Addr} {n c : Nat} {k : Nat} (hk : H k = none) {tk : TypeId} {ca : Array Value}
    {α : Type} {E : α → List Value} {l : List α} {x : α} (hE : ∀ x, (E x).length = sz) (hown : OwnL H e E sz oa n c l) (hca : ca.toList = E x) (h1 : ∀ u ∈ E x, u.oneCell' = true)
    (h63 : n + 1 ≤ maxLen) (hbytes : (n + 1) * bytes ≤ 140737488355328) {K : Value → PHeap → Prop}
    (hK : ∀ oa' c' H', OwnL H' e E sz oa' (n + 1) c' (l ++ [x]) → Frame oa H H' → Fresh oa oa' H → oa' ≠ none → K (.slice oa' (n + 1) c') H') :
    EvV P (Builtin.append_ #[t, t] ty #[.slice oa n c, .slice (some ⟨k, 0, none⟩) 1 1]) (H.upd k (.cells ca tk)) K := by
  have hb : ∀ a, oa = some a → a.block ≠ k := by
    intro a ha e1
    rcases hown.row with ⟨e2, _⟩ | ⟨g, cur, e2, hg, _⟩
    · rw [e2] at ha; cases ha
    · rw [e2] at ha; cases ha; simp only at e1; rw [e1, hk] at hg; cases hg
  refine append_own T (hown.mono fun a o ha ho => by rw [upd_ne _ _ (hb a ha)]; exact ho) (news := E x) (by rw [hE]; simp) (fun j u hj => ?_) h1 h63 hbytes ?_
  · unfold hcell
    rw [Addr.add_lit]
    simp [upd_eq]
    rw [← hca] at hj
    simpa using hj
  · intro oa' c' H' h2 h3 h4 h5
    refine hK oa' c' H' (by simpa [OwnL, List.flatMap_append] using h2) (fun k' o hk' hne => h3 k' o (by rw [upd_ne _ _ (fun e => by rw [e, hk] at hk'; cases hk')]; exact hk') hne) (fun a' ha' => ?_) (fun e => by have := (h5 e).2; omega)
    rcases h4 a' ha' with h | h
    · exact .inl h
    · right
      by_cases e1 : a'.block = k
      · rw [e1]; exact hk
      · rwa [upd_ne _ _ e1] at h
end Go.Vx
