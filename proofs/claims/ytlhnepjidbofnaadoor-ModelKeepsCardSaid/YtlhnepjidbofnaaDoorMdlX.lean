/- The document's model: whether an answer has the right form: the contracts. -/
import Derived.Test.YtlhnepjidbofnaaDoorMdlV
namespace Go.Mdl
open Go.Vx Go.Vc Go.Proofs Go.Txt

/-- Operations, as the document has them. -/
structure OsW (H : PHeap) (v : OsV) (x : OpS) : Prop where
  op : OpW H v.op x.op
  began : v.began = x.began
  over : v.over = x.over
def OpsW (H : PHeap) (vs : List OsV) (xs : List OpS) : Prop := vs.length = xs.length ∧ ∀ (i : Nat) (v : OsV) (x : OpS), vs[i]? = some v → xs[i]? = some x → OsW H v x
theorem OpsW.mono {H H' : PHeap} {vs : List OsV} {xs : List OpS} (hs : Sub H H') (h : OpsW H vs xs) : OpsW H' vs xs := ⟨h.1, fun i v x a b => ⟨(h.2 i v x a b).op.mono hs, (h.2 i v x a b).began, (h.2 i v x a b).over⟩⟩
/-- A list of the document's operations that is read. -/
structure OpL (H : PHeap) (a : Option Addr) (n : Nat) (ops : List OpS) : Prop where
  out : ∃ vs, RdL H oE 5 a n vs ∧ OpsW H vs ops
theorem OpL.mono {H H' : PHeap} {a : Option Addr} {n : Nat} {ops : List OpS} (hs : Sub H H') (h : OpL H a n ops) : OpL H' a n ops := by
  obtain ⟨vs, h1, h2⟩ := h.out; exact ⟨vs, h1.mono hs, h2.mono hs⟩
theorem OpL.len {H : PHeap} {a : Option Addr} {n : Nat} {ops : List OpS} (h : OpL H a n ops) : ops.length = n := by
  obtain ⟨vs, h1, h2⟩ := h.out; rw [← h2.1, h1.len]
theorem OpL.at {H : PHeap} {a : Option Addr} {n : Nat} {ops : List OpS} (h : OpL H a n ops) {i : Nat} {o : OpS} (ho : ops[i]? = some o) : ∃ v, OsW H v o ∧ Reads H (elemA a (i : Int) 5) (oE v) ∧ Ob (a ≠ none ∧ 0 ≤ (i : Int) ∧ (i : Int) < n) ∧ Ob (elemA a (i : Int) 5 ≠ none) := by
  obtain ⟨vs, h1, h2⟩ := h.out
  have hi := (List.getElem?_eq_some_iff.1 ho).1
  have hl := h.len
  obtain ⟨v, hv, hr⟩ := h1.ex (i := (i : Int)) (by omega) (by omega)
  rw [Int.toNat_natCast] at hv
  exact ⟨v, h2.2 i v o hv ho, hr, h1.ob (by omega) (by omega), ⟨h1.elem_ne (by omega) (by omega)⟩⟩
theorem rd_k {H : PHeap} {a : Option Addr} {v : OsV} (h : Reads H a (oE v)) : Reads H (fldA (fldA a 0) 0) [.int .i64 v.op.k] ∧ Reads H (fldA (fldA a 0) 1) [.string v.op.s] ∧ Reads H (fldA a 0) (opE v.op) ∧ Reads H (fldA a 3) [.bool v.began] ∧ Reads H (fldA a 4) [.bool v.over] := by
  have h0 : Reads H (fldA a 0) (oE v) := h.fld 0 fun j u hu => by rw [Nat.zero_add]; exact hu
  refine ⟨h0.fld 0 fun j u hu => ?_, h0.fld 1 fun j u hu => ?_, h.fld 0 fun j u hu => ?_, h.fld 3 fun j u hu => ?_, h.fld 4 fun j u hu => ?_⟩
  · match j, hu with
    | 0, hu => exact hu
    | j + 1, hu => simp at hu
  · match j, hu with
    | 0, hu => exact hu
    | j + 1, hu => simp at hu
  · match j, hu with
    | 0, hu => exact hu
    | 1, hu => exact hu
    | 2, hu => exact hu
    | j + 3, hu => simp [opE] at hu
  · match j, hu with
    | 0, hu => exact hu
    | j + 1, hu => simp at hu
  · match j, hu with
    | 0, hu => exact hu
    | j + 1, hu => simp at hu
end Go.Mdl
