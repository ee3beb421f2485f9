/- The document's model: whether an answer has the right form: the contracts. -/
import Derived.Test.YtlhnepjidbofnaaGreatDoorMdlV
namespace Go.Mdl
open Go.Vx Go.Vc Go.Proofs Go.Txt

theorem rplain_ok {H : PHeap} {v : AnV} {x : AnX} (h : AnR H v x) : Triple Tryz.prog 47 #[.agg (anE v).toArray] H fun u H' => ∃ b, u = .bool b ∧ (b = true ↔ plainX x) ∧ H' = H := by
  refine rPlain.vc v.e v.size v.d.a v.d.n v.d.c v.n.a v.n.n v.n.c H _ ⟨_, rfl, ?_, rfl⟩
  have h1 := bw_len h.data
  have h2 := h.names.len
  have h3 : x.names = [] ↔ v.n.n = 0 := ⟨fun e => by rw [e] at h2; simpa using h2.symm, fun e => List.eq_nil_of_length_eq_zero (by omega)⟩
  unfold plainX
  rw [h3, ← h.size, h1]
  simp only [Bool.cond_eq_ite]
  grind
theorem has_ok {H : PHeap} {oa : Option Addr} {n c : Nat} {l : List ByteArray} (hl : RdL H strE 1 oa n l) (hn : n ≤ 1000000) (s : ByteArray) :
    Triple Tryz.prog 54 #[.slice oa n c, .string s] H fun v H' => ∃ b, v = .bool b ∧ (b = true ↔ s ∈ l) ∧ H' = H := by
  have hln := hl.len
  refine rHas.vc oa n c s H _ ⟨fun t H' => match t with | [.int _ i] => 0 ≤ i ∧ i ≤ n ∧ H' = H ∧ s ∉ l.take i.toNat | _ => False, fun t _ => match t with | [.int _ i] => (n - i).toNat | _ => 0, ⟨by omega, by omega, rfl, by simp⟩, ?_⟩
  rintro i _ ⟨i0, i1, rfl, hno⟩
  obtain ⟨i, rfl⟩ : ∃ j : Nat, i = j := ⟨i.toNat, by omega⟩
  rw [Int.toNat_natCast] at hno
  refine ⟨fun hi => ?_, fun hi => ?_⟩
  · have hi' : i < n := by simpa using hi
    obtain ⟨y, hy, hyr⟩ := hl.ex (i := (i : Int)) (by omega) (by omega)
    rw [Int.toNat_natCast] at hy
    refine ⟨hl.ob (by omega) (by omega), y, hyr, fun e => ⟨true, rfl, ⟨fun _ => ?_, fun _ => rfl⟩, rfl⟩, fun e => ?_⟩
    · rw [← eqS_iff.1 e]; exact List.mem_of_getElem? hy
    · rw [wrap64 (by omega) (by omega)]
      refine ⟨⟨by omega, by omega, rfl, ?_⟩, ⟨by simp only; omega⟩⟩
      rw [show ((i : Int) + 1).toNat = i + 1 by omega, List.take_add_one, hy, List.mem_append]
      exact fun h => h.elim hno fun h => eqS_false.1 e (by simpa using Eq.symm (by simpa using h))
  · have : ¬ i < n := by simpa using hi
    rw [List.take_of_length_le (by omega)] at hno
    exact ⟨false, rfl, ⟨fun e => by (cases e), fun h => (hno h).elim⟩, rfl⟩
theorem listed_ok {H : PHeap} {v : AnV} {x : AnX} (h : AnR H v x) (hn : v.n.n ≤ 1000000) (s : ByteArray) : Triple Tryz.prog 39 #[.agg (anE v).toArray, .string s] H fun u H' => ∃ b, u = .bool b ∧ (b = true ↔ s ∈ x.names) ∧ H' = H := by
  refine rListed.vc v.e v.size v.d.a v.d.n v.d.c v.n.a v.n.n v.n.c s H _ ((has_ok h.names hn s).mono ?_)
  rintro _ _ ⟨b, rfl, hb, rfl⟩
  exact ⟨b, rfl, b, rfl, hb, rfl⟩
/-- Operations, as the document has them. -/
structure OsW (H : PHeap) (v : OsV) (x : OpS) : Prop where
  op : OpW H v.op x.op
  began : v.began = x.began
  over : v.over = x.over
def OpsW (H : PHeap) (vs : List OsV) (xs : List OpS) : Prop := vs.length = xs.length ∧ ∀ (i : Nat) (v : OsV) (x : OpS), vs[i]? = some v → xs[i]? = some x → OsW H v x
theorem OpsW.mono {H H' : PHeap} {vs : List OsV} {xs : List OpS} (hs : Sub H H') (h : OpsW H vs xs) : OpsW H' vs xs := ⟨h.1, fun i v x a b => ⟨(h.2 i v x a b).op.mono hs, (h.2 i v x a b).began, (h.2 i v x a b).over⟩⟩
/-- A list of the document's operations that is read. -/
structure OpL (H : PHeap) (a : Option Addr) (n : Nat) (ops : List OpS) : Prop where
  out : ∃ vs, RdL H oE 5 a n vs ∧ OpsW H vs ops
theorem OpL.mono {H H' : PHeap} {a : Option Addr} {n : Nat} {ops : List OpS} (hs : Sub H H') (h : OpL H a n ops) : OpL H' a n ops := by
  obtain ⟨vs, h1, h2⟩ := h.out; exact ⟨vs, h1.mono hs, h2.mono hs⟩
theorem OpL.len {H : PHeap} {a : Option Addr} {n : Nat} {ops : List OpS} (h : OpL H a n ops) : ops.length = n := by
  obtain ⟨vs, h1, h2⟩ := h.out; rw [← h2.1, h1.len]
theorem OpL.at {H : PHeap} {a : Option Addr} {n : Nat} {ops : List OpS} (h : OpL H a n ops) {i : Nat} {o : OpS} (ho : ops[i]? = some o) : ∃ v, OsW H v o ∧ Reads H (elemA a (i : Int) 5) (oE v) ∧ Ob (a ≠ none ∧ 0 ≤ (i : Int) ∧ (i : Int) < n) ∧ Ob (elemA a (i : Int) 5 ≠ none) := by
  obtain ⟨vs, h1, h2⟩ := h.out
  have hi := (List.getElem?_eq_some_iff.1 ho).1
  have hl := h.len
  obtain ⟨v, hv, hr⟩ := h1.ex (i := (i : Int)) (by omega) (by omega)
  rw [Int.toNat_natCast] at hv
  exact ⟨v, h2.2 i v o hv ho, hr, h1.ob (by omega) (by omega), ⟨h1.elem_ne (by omega) (by omega)⟩⟩
theorem rd_k {H : PHeap} {a : Option Addr} {v : OsV} (h : Reads H a (oE v)) : Reads H (fldA (fldA a 0) 0) [.int .i64 v.op.k] ∧ Reads H (fldA (fldA a 0) 1) [.string v.op.s] ∧ Reads H (fldA a 0) (opE v.op) ∧ Reads H (fldA a 3) [.bool v.began] ∧ Reads H (fldA a 4) [.bool v.over] := by
  have h0 : Reads H (fldA a 0) (oE v) := h.fld 0 fun j u hu => by rw [Nat.zero_add]; exact hu
  refine ⟨h0.fld 0 fun j u hu => ?_, h0.fld 1 fun j u hu => ?_, h.fld 0 fun j u hu => ?_, h.fld 3 fun j u hu => ?_, h.fld 4 fun j u hu => ?_⟩
  · match j, hu with
    | 0, hu => exact hu
    | j + 1, hu => simp at hu
  · match j, hu with
    | 0, hu => exact hu
    | j + 1, hu => simp at hu
  · match j, hu with
    | 0, hu => exact hu
    | 1, hu => exact hu
    | 2, hu => exact hu
    | j + 3, hu => simp [opE] at hu
  · match j, hu with
    | 0, hu => exact hu
    | j + 1, hu => simp at hu
  · match j, hu with
    | 0, hu => exact hu
    | j + 1, hu => simp at hu
theorem called_ok {H : PHeap} {a : Option Addr} {n c : Nat} {ops : List OpS} (h : OpL H a n ops) (hn : n ≤ 100000) (s : ByteArray) :
    Triple Tryz.prog 30 #[.slice a n c, .string s] H fun v H' => ∃ b, v = .bool b ∧ (b = true ↔ calledS ops s) ∧ H' = H := by
  have hln := h.len
  refine rCalled.vc a n c s H _ ⟨fun t H' => match t with | [.int _ i] => 0 ≤ i ∧ i ≤ n ∧ H' = H ∧ ¬ calledS (ops.take i.toNat) s | _ => False, fun t _ => match t with | [.int _ i] => (n - i).toNat | _ => 0, ⟨by omega, by omega, rfl, by simp [calledS]⟩, ?_⟩
  rintro i _ ⟨i0, i1, rfl, hno⟩
  obtain ⟨i, rfl⟩ : ∃ j : Nat, i = j := ⟨i.toNat, by omega⟩
  rw [Int.toNat_natCast] at hno
  refine ⟨fun hi => ?_, fun hi => ?_⟩
  · have hi' : i < n := by simpa using hi
    have ho : ops[i]? = some ops[i] := List.getElem?_eq_getElem (by omega)
    obtain ⟨v, hv, hr, hob, hen⟩ := h.at ho
    have hr2 := rd_k hr
    have hen2 : Ob (fldA (elemA a (i : Int) 5) 0 ≠ none) := ⟨by have := hen.out; cases h : elemA a (i : Int) 5 with | none => exact absurd h this | some x => simp [fldA]⟩
    have ew : IntKind.i64.wrap ((i : Int) + 1) = (i : Int) + 1 := wrap64 (by omega) (by omega)
    rw [ew]
    have next : ¬ (ops[i].op.k ≠ 4 ∧ ops[i].op.s = s) → ¬ calledS (ops.take ((i : Int) + 1).toNat) s := fun hn' => by
      rw [show ((i : Int) + 1).toNat = i + 1 by omega, List.take_add_one, ho]
      rintro ⟨o, ho1, h1⟩
      rcases List.mem_append.1 ho1 with h2 | h2
      · exact hno ⟨o, h2, h1⟩
      · simp at h2; subst h2; exact hn' h1
    refine ⟨hob, hen, hen2, v.op.k, hr2.1, fun e => ⟨hob, hen, hen2, v.op.s, hr2.2.1, fun e2 => ⟨true, rfl, ⟨fun _ => ⟨ops[i], List.mem_of_getElem? ho, by rw [← hv.op.k]; simpa using e, by rw [← hv.op.s]; exact eqS_iff.1 e2⟩, fun _ => rfl⟩, rfl⟩, fun e2 => ⟨⟨by omega, by omega, rfl, next fun h => eqS_false.1 e2 (by rw [hv.op.s]; exact h.2)⟩, ⟨by simp only; omega⟩⟩⟩, fun e => ⟨⟨by omega, by omega, rfl, next fun h => ?_⟩, ⟨by simp only; omega⟩⟩⟩
    have : v.op.k = 4 := by simpa using e
    exact h.1 (by rw [← hv.op.k]; exact this)
  · have : ¬ i < n := by simpa using hi
    rw [List.take_of_length_le (by omega)] at hno
    exact ⟨false, rfl, ⟨fun e => by (cases e), fun h => (hno h).elim⟩, rfl⟩
theorem rsame_ok {H : PHeap} {a b : Option Addr} {n m c c' : Nat} {d d' : ByteArray} (h : RdL H bE 1 a n (bytesL d)) (h' : RdL H bE 1 b m (bytesL d')) (hn : n ≤ 1000000) : Triple Tryz.prog 73 #[.slice a n c, .slice b m c'] H fun v H' => ∃ r, v = .bool r ∧ (r = true ↔ d = d') ∧ H' = H := by
  have hl := h.len
  have hl' := h'.len
  have inj : bytesL d = bytesL d' ↔ d = d' := ⟨fun e => by rw [← strOf_bytes d, e, strOf_bytes], fun e => by rw [e]⟩
  rw [← inj]
  refine rSame.vc a n c b m c' H _ ⟨fun e => ⟨false, rfl, ⟨fun e => by (cases e), fun e2 => ?_⟩, rfl⟩, fun e => ?_⟩
  · rw [← hl, ← hl', e2] at e; simp at e
  have hnm : n = m := by simp at e; omega
  subst hnm
  refine ⟨fun t H' => match t with | [.int _ i] => 0 ≤ i ∧ i ≤ n ∧ H' = H ∧ (bytesL d).take i.toNat = (bytesL d').take i.toNat | _ => False, fun t _ => match t with | [.int _ i] => (n - i).toNat | _ => 0, ⟨by omega, by omega, rfl, by simp⟩, ?_⟩
  rintro i _ ⟨i0, i1, rfl, heq⟩
  obtain ⟨i, rfl⟩ : ∃ j : Nat, i = j := ⟨i.toNat, by omega⟩
  rw [Int.toNat_natCast] at heq
  refine ⟨fun hi => ?_, fun hi => ?_⟩
  · have hi' : i < n := by simpa using hi
    obtain ⟨x, hx, hxr⟩ := h.ex (i := (i : Int)) (by omega) (by omega)
    obtain ⟨y, hy, hyr⟩ := h'.ex (i := (i : Int)) (by omega) (by omega)
    rw [Int.toNat_natCast] at hx hy
    refine ⟨_, Sub.refl _, h.ob (by omega) (by omega), x, hxr, h'.ob (by omega) (by omega), y, hyr, fun e2 => ⟨false, rfl, ⟨fun e => by (cases e), fun e3 => ?_⟩, rfl⟩, fun e2 => ?_⟩
    · rw [e3, hy] at hx; cases hx; simp at e2
    · have : x = y := by simpa using e2
      rw [wrap64 (by omega) (by omega)]
      refine ⟨⟨by omega, by omega, rfl, ?_⟩, ⟨by simp only; omega⟩⟩
      rw [show ((i : Int) + 1).toNat = i + 1 by omega, List.take_add_one, List.take_add_one, heq, hx, hy, this]
  · have : ¬ i < n := by simpa using hi
    rw [List.take_of_length_le (by omega), List.take_of_length_le (by omega)] at heq
    exact ⟨true, rfl, ⟨fun _ => heq, fun _ => rfl⟩, rfl⟩
theorem rsameOp_ok {H : PHeap} {av bv : OpV} {a b : OpX} (ha : OpW H av a) (hb : OpW H bv b) (hn : a.d.size ≤ 1000000) : Triple Tryz.prog 44 #[.agg (opE av).toArray, .agg (opE bv).toArray] H fun v H' => ∃ r, v = .bool r ∧ (r = true ↔ a = b) ∧ H' = H := by
  obtain ⟨k, s, d⟩ := a
  obtain ⟨k', s', d'⟩ := b
  obtain ⟨hk, hs, hd⟩ := ha
  obtain ⟨hk', hs', hd'⟩ := hb
  simp only at hk hs hd hk' hs' hd' hn
  have hdn := bw_len hd
  refine rSameOp.vc av.k av.s av.a av.n av.c bv.k bv.s bv.a bv.n bv.c H _ ⟨fun e1 => ⟨fun e2 => (rsame_ok hd hd' (by omega)).mono ?_, fun e2 => ⟨_, rfl, ?_, rfl⟩⟩, fun e1 => ⟨_, rfl, ?_, rfl⟩⟩
  · have h1 : k = k' := by rw [← hk, ← hk']; simpa using e1
    have h2 : s = s' := by rw [← hs, ← hs']; exact eqS_iff.1 e2
    rintro _ _ ⟨r, rfl, hr, rfl⟩
    exact ⟨r, rfl, r, rfl, by rw [hr, h1, h2]; simp, rfl⟩
  · have h2 : s ≠ s' := by rw [← hs, ← hs']; exact eqS_false.1 (by simpa using e2)
    simp [h2]
  · have h1 : k ≠ k' := by rw [← hk, ← hk']; simpa using e1
    simp [h1]
theorem rcheck_ok {H : PHeap} (ov : OpV) (o : OpX) (ho : OpW H ov o) : Triple Tryz.prog 45 #[.agg (opE ov).toArray] H fun v H' => v = .int .i64 (checkX o) ∧ H' = H := by
  have hk := ho.k
  have hs := ho.s
  have hl := bw_len ho.d
  have hz : o.s ≠ ⟨#[]⟩ ↔ 0 < o.s.size := by
    constructor
    · intro h
      refine Nat.pos_of_ne_zero fun e => h ?_
      cases hh : o.s with | mk d => rw [hh] at e; simp [ByteArray.size] at e; rw [e]
    · intro h e; rw [e] at h; simp [ByteArray.size] at h
  refine rCheck.vc ov.k ov.s ov.a ov.n ov.c H _ ⟨fun e1 => ⟨?_, rfl⟩, fun e1 => ⟨fun e4 => (refRight_ok ov.s).mono ?_, fun e4 => ⟨fun e5 => ⟨?_, rfl⟩, fun e5 => ⟨?_, rfl⟩⟩⟩⟩
  · simp only [Bool.cond_eq_ite] at e1
    rw [hk, hs, ← hl] at e1
    unfold checkX
    by_cases k1 : o.k < 1 ∨ o.k > 6
    · rw [if_pos k1]
    rw [if_neg k1]
    by_cases k2 : o.k = 4 ∧ o.s ≠ ⟨#[]⟩
    · rw [if_pos k2]
    rw [if_neg k2, if_pos ?_]
    rw [hz] at k2
    grind
  all_goals have key : ¬ (o.k < 1 ∨ o.k > 6) ∧ ¬ (o.k = 4 ∧ o.s ≠ ⟨#[]⟩) ∧ ¬ (o.k ≠ 1 ∧ 0 < o.d.size) := by
              rw [hz]
              simp only [Bool.cond_eq_ite] at e1
              rw [hk, hs, ← hl] at e1
              grind
  · have k4 : o.k ≠ 4 := by rw [← hk]; simpa using e4
    rintro _ _ ⟨b, rfl, rfl, hb⟩
    rw [hs] at hb
    refine ⟨b, rfl, fun e5 => ⟨?_, rfl⟩, fun e5 => ⟨fun e6 => ⟨?_, rfl⟩, fun e6 => ⟨?_, rfl⟩⟩⟩
    · unfold checkX; rw [if_neg key.1, if_neg key.2.1, if_neg key.2.2, if_pos ⟨k4, fun h => by rw [hb.2 h] at e5; cases e5⟩]
    · have : 240 < o.d.size := by rw [hl]; have := of_decide_eq_true e6; omega
      unfold checkX; rw [if_neg key.1, if_neg key.2.1, if_neg key.2.2, if_neg (fun h => h.2 (hb.1 (by simpa using e5))), if_pos this]
    · have : ¬ 240 < o.d.size := by rw [hl]; have := of_decide_eq_false e6; omega
      unfold checkX; rw [if_neg key.1, if_neg key.2.1, if_neg key.2.2, if_neg (fun h => h.2 (hb.1 (by simpa using e5))), if_neg this]
  · have k4 : o.k = 4 := by rw [← hk]; simpa using e4
    have : 240 < o.d.size := by rw [hl]; have := of_decide_eq_true e5; omega
    unfold checkX; rw [if_neg key.1, if_neg key.2.1, if_neg key.2.2, if_neg (fun h => h.1 k4), if_pos this]
  · have k4 : o.k = 4 := by rw [← hk]; simpa using e4
    have : ¬ 240 < o.d.size := by rw [hl]; have := of_decide_eq_false e5; omega
    unfold checkX; rw [if_neg key.1, if_neg key.2.1, if_neg key.2.2, if_neg (fun h => h.1 k4), if_neg this]
end Go.Mdl
