/- What is to be shown of each function, in its normal form. Printed by a program of this session's, checked by the kernel. -/
import Derived.Test.YtlhnepjidbofnaaDoorE2
import Derived.Test.YtlhnepjidbofnaaDoorProg
set_option linter.unusedVariables false
set_option maxRecDepth 100000
namespace Go.Vc
open Go.Vx Go
def bWrite.cx : Cx := ⟨[], [], [], []⟩
def bString.cx : Cx := ⟨[], [], [], []⟩
def bCheck.cx : Cx := ⟨[], [], [], []⟩
def fmtBool.cx : Cx := ⟨[], [], [], []⟩
def fmtBool1.cx : Cx := ⟨[], [], [], []⟩

theorem bWrite.vc (a1 : Option Addr) (s2 : ByteArray) (H : PHeap) (Q : Value → PHeap → Prop)
    (h : Triple Proofs.Tryd.prog 65 #[Value.pointer a1] H fun v3 H4 =>
  v3 = Value.tuple #[] ∧
    Ob (a1 ≠ none) ∧
      Ob (a1 ≠ none) ∧
        ∃ a5 k6 k7,
        Reads H4 (fldA a1 1) [Value.slice a5 k6 k7] ∧
        EvV Proofs.Tryd.prog (Builtin.append_ #[23, 9] 23 #[Value.slice a5 k6 k7, Value.string s2]) H4 fun v8 H9 =>
        ∃ a10 k11 k12,
        v8 = Value.slice a10 k11 k12 ∧
        Ob (a1 ≠ none) ∧ Ob (a1 ≠ none) ∧ ∃ H13, Writes H9 H13 (fldA a1 1) [Value.slice a10 k11 k12] ∧ Q (Value.tuple #[Value.int IntKind.i64 (↑s2.size : Int), Value.nilIface]) H13) :
    Triple Go.Proofs.Tryd.prog 43 ([Value.pointer a1, Value.string s2]).toArray H Q :=
  Triple.of_vc bWrite.cx (by kernel_rfl) h

theorem bString.vc (a1 : Option Addr) (H : PHeap) (Q : Value → PHeap → Prop)
    (h : ∃ H2,
  Vx.Sub H2 H ∧
    Ob (a1 ≠ none) ∧
      Ob (a1 ≠ none) ∧
        ∃ a3 k4 k5,
        Reads H2 (fldA a1 1) [Value.slice a3 k4 k5] ∧
        Ob (a1 ≠ none) ∧
        Ob (a1 ≠ none) ∧
        ∃ a6 k7 k8,
        Reads H2 (fldA a1 1) [Value.slice a6 k7 k8] ∧
        EvV Proofs.Tryd.prog (Builtin.unsafeSliceData_ #[23] 114 #[Value.slice a3 k4 k5]) H fun v9 H10 =>
        ∃ a11,
        v9 = Value.pointer a11 ∧
        Vx.Sub H2 H10 ∧
        EvV Proofs.Tryd.prog (Builtin.unsafeString_ #[114, 3] 9 #[Value.pointer a11, Value.int IntKind.i64 (↑k7 : Int)]) H10 fun v12 H13 =>
        ∃ s14, v12 = Value.string s14 ∧ Q (Value.string s14) H13) :
    Triple Go.Proofs.Tryd.prog 46 ([Value.pointer a1]).toArray H Q :=
  Triple.of_vc bString.cx (by kernel_rfl) h

theorem bCheck.vc (a1 : Option Addr) (H : PHeap) (Q : Value → PHeap → Prop)
    (h : Ob (a1 ≠ none) ∧
  Ob (a1 ≠ none) ∧
    ∃ a2,
      Reads H (fldA a1 0) [Value.pointer a2] ∧
        (a2.isNone = true →
        EvV Proofs.Tryd.prog (convert 88 124 (Value.pointer a1)) H fun v3 H4 =>
        ∃ a5,
        v3 = Value.pointer a5 ∧
        ExtV Proofs.Tryd.prog 79 #[Value.pointer a5] H4 fun v6 H7 =>
        ∃ a8,
        v6 = Value.pointer a8 ∧
        EvV Proofs.Tryd.prog (convert 124 88 (Value.pointer a8)) H7 fun v9 H10 =>
        ∃ a11, v9 = Value.pointer a11 ∧ Ob (a1 ≠ none) ∧ Ob (a1 ≠ none) ∧ ∃ H12, Writes H10 H12 (fldA a1 0) [Value.pointer a11] ∧ Q (Value.tuple #[]) H12) ∧
        (a2.isNone = false →
        Ob (a1 ≠ none) ∧
        Ob (a1 ≠ none) ∧
        ∃ a13,
        Reads H (fldA a1 0) [Value.pointer a13] ∧
        LookV Proofs.Tryd.prog (binOp BinOp.neq 88 (Value.pointer a13) (Value.pointer a1)) H fun v14 =>
        ∃ b15, v14 = Value.bool b15 ∧ (b15 = true → False) ∧ (b15 = false → Q (Value.tuple #[]) H))) :
    Triple Go.Proofs.Tryd.prog 65 ([Value.pointer a1]).toArray H Q :=
  Triple.of_vc bCheck.cx (by kernel_rfl) h

theorem fmtBool.vc (b1 : Bool) (H : PHeap) (Q : Value → PHeap → Prop)
    (h : Triple Proofs.Tryd.prog 66 #[Value.bool b1] H fun v2 H3 => ∃ s4, v2 = Value.string s4 ∧ Q (Value.string s4) H3) :
    Triple Go.Proofs.Tryd.prog 44 ([Value.bool b1]).toArray H Q :=
  Triple.of_vc fmtBool.cx (by kernel_rfl) h

theorem fmtBool1.vc (b1 : Bool) (H : PHeap) (Q : Value → PHeap → Prop)
    (h : (b1 = true → Q (Value.string { data := #[116, 114, 117, 101] }) H) ∧ (b1 = false → Q (Value.string { data := #[102, 97, 108, 115, 101] }) H)) :
    Triple Go.Proofs.Tryd.prog 66 ([Value.bool b1]).toArray H Q :=
  Triple.of_vc fmtBool1.cx (by kernel_rfl) h

end Go.Vc
