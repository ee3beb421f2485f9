/- What is to be shown of each function, in its normal form. Printed by a program of this session's, checked by the kernel. -/
import Derived.Test.YtcdgeeakfoofpabVxN
import Derived.Test.YtcdgeeakfoofpabProg
set_option linter.unusedVariables false
set_option maxRecDepth 100000
namespace Go.Vc
open Go.Vx Go
def wNum.cx : Cx := ⟨[], [(3, [12], [])], [], []⟩
def wRaw.cx : Cx := ⟨[], [], [], []⟩
def wBytes.cx : Cx := ⟨[], [], [], []⟩
def width.cx : Cx := ⟨[], [], [], []⟩

theorem wNum.vc (a1 : Option Addr) (n2 : Int) (n3 : Int) (H : PHeap) (Q : Value → PHeap → Prop)
    (h : Triple Proofs.Try.prog 30 #[Value.int IntKind.i64 n2] H fun v4 H5 =>
  ∃ n6,
    v4 = Value.int IntKind.i64 n6 ∧
      ∃ (R7 : Rl) (M8 : Mu),
        R7 [Value.int IntKind.i64 0] H5 ∧
        ∀ (n9 : Int) (H10 : PHeap),
        R7 [Value.int IntKind.i64 n9] H10 →
        (decide (n9 < n6) = true →
        ∃ H11,
        Vx.Sub H11 H10 ∧
        Ob (a1 ≠ none) ∧
        Ob (a1 ≠ none) ∧
        ∃ a12 k13 k14,
        Reads H11 (fldA a1 0) [Value.slice a12 k13 k14] ∧
        Ob (0 ≤ IntKind.i64.wrap (8 * IntKind.i64.wrap (IntKind.i64.wrap (n6 - 1) - n9))) ∧
        ∀ (k15 : Nat),
        H10 k15 = none →
        Vx.Sub H11
        (H10.upd k15
        (Obj.cells #[Value.int IntKind.u8 (IntKind.u8.wrap (shrI IntKind.i64 (maxI n3 0) (IntKind.i64.wrap (8 * IntKind.i64.wrap (IntKind.i64.wrap (n6 - 1) - n9)))))]
        5)) ∧
        EvV Proofs.Try.prog (Builtin.append_ #[32, 32] 32 #[Value.slice a12 k13 k14, Value.slice (at0 k15) 1 1])
        (H10.upd k15
        (Obj.cells #[Value.int IntKind.u8 (IntKind.u8.wrap (shrI IntKind.i64 (maxI n3 0) (IntKind.i64.wrap (8 * IntKind.i64.wrap (IntKind.i64.wrap (n6 - 1) - n9)))))]
        5))
        fun v16 H17 =>
        ∃ a18 k19 k20,
        v16 = Value.slice a18 k19 k20 ∧
        Ob (a1 ≠ none) ∧
        Ob (a1 ≠ none) ∧
        ∃ H21,
        Writes H17 H21 (fldA a1 0) [Value.slice a18 k19 k20] ∧
        R7 [Value.int IntKind.i64 (IntKind.i64.wrap (n9 + 1))] H21 ∧
        Less (M8 [Value.int IntKind.i64 (IntKind.i64.wrap (n9 + 1))] H21) (M8 [Value.int IntKind.i64 n9] H10)) ∧
        (decide (n9 < n6) = false → Q (Value.tuple #[]) H10)) :
    Triple Go.Proofs.Try.prog 24 ([Value.pointer a1, Value.int IntKind.i64 n2, Value.int IntKind.i64 n3]).toArray H Q :=
  Triple.of_vc wNum.cx (by kernel_rfl) h

theorem wRaw.vc (a1 : Option Addr) (a2 : Option Addr) (k3 : Nat) (k4 : Nat) (H : PHeap) (Q : Value → PHeap → Prop)
    (h : Ob (a1 ≠ none) ∧
  Ob (a1 ≠ none) ∧
    ∃ a5 k6 k7,
      Reads H (fldA a1 0) [Value.slice a5 k6 k7] ∧
        EvV Proofs.Try.prog (Builtin.append_ #[32, 32] 32 #[Value.slice a5 k6 k7, Value.slice a2 k3 k4]) H fun v8 H9 =>
        ∃ a10 k11 k12, v8 = Value.slice a10 k11 k12 ∧ Ob (a1 ≠ none) ∧ Ob (a1 ≠ none) ∧ ∃ H13, Writes H9 H13 (fldA a1 0) [Value.slice a10 k11 k12] ∧ Q (Value.tuple #[]) H13) :
    Triple Go.Proofs.Try.prog 32 ([Value.pointer a1, Value.slice a2 k3 k4]).toArray H Q :=
  Triple.of_vc wRaw.cx (by kernel_rfl) h

theorem wBytes.vc (a1 : Option Addr) (H : PHeap) (Q : Value → PHeap → Prop)
    (h : ∀ (k2 : Nat),
  H k2 = none →
    Ob (a1 ≠ none) ∧
      Ob (a1 ≠ none) ∧
        ∃ a3 k4 k5,
        Reads (H.upd k2 (Obj.cells #[] 5)) (fldA a1 0) [Value.slice a3 k4 k5] ∧
        EvV Proofs.Try.prog (Builtin.append_ #[32, 32] 32 #[Value.slice (at0 k2) 0 0, Value.slice a3 k4 k5]) (H.upd k2 (Obj.cells #[] 5)) fun v6 H7 =>
        ∃ a8 k9 k10, v6 = Value.slice a8 k9 k10 ∧ Q (Value.slice a8 k9 k10) H7) :
    Triple Go.Proofs.Try.prog 27 ([Value.pointer a1]).toArray H Q :=
  Triple.of_vc wBytes.cx (by kernel_rfl) h

theorem width.vc (n1 : Int) (H : PHeap) (Q : Value → PHeap → Prop)
    (h : Q (Value.int IntKind.i64 (minI (maxI n1 1) 4)) H) :
    Triple Go.Proofs.Try.prog 30 ([Value.int IntKind.i64 n1]).toArray H Q :=
  Triple.of_vc width.cx (by kernel_rfl) h

end Go.Vc
