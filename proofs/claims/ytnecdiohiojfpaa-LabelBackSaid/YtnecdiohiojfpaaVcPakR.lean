/- What is to be shown of each function, in its normal form. Printed by a program of this session's, checked by the kernel. -/
import Derived.Test.YtnecdiohiojfpaaVxN
import Derived.Test.YtnecdiohiojfpaaProg
set_option linter.unusedVariables false
set_option maxRecDepth 100000
namespace Go.Vc
open Go.Vx Go
def rNum.cx : Cx := ⟨[], [(4, [6, 16], [])], [], []⟩
def rRaw.cx : Cx := ⟨[], [], [], []⟩
def rGood.cx : Cx := ⟨[], [], [], []⟩
def rCut.cx : Cx := ⟨[], [], [], []⟩
def rLeft.cx : Cx := ⟨[], [], [], []⟩
def read.cx : Cx := ⟨[5], [], [], []⟩

theorem rNum.vc (a1 : Option Addr) (n2 : Int) (H : PHeap) (Q : Value → PHeap → Prop)
    (h : Triple Proofs.Try.prog 39 #[Value.int IntKind.i64 n2] H fun v3 H4 =>
  ∃ n5,
    v3 = Value.int IntKind.i64 n5 ∧
      Triple Proofs.Try.prog 40 #[Value.pointer a1, Value.int IntKind.i64 n5] H4 fun v6 H7 =>
        ∃ a8 k9 k10,
        v6 = Value.slice a8 k9 k10 ∧
        ∃ (R11 : Rl) (M12 : Mu),
        R11 [Value.int IntKind.i64 0, Value.int IntKind.i64 0] H7 ∧
        ∀ (n13 n14 : Int) (H15 : PHeap),
        R11 [Value.int IntKind.i64 n13, Value.int IntKind.i64 n14] H15 →
        (decide (n14 < (↑k9 : Int)) = true →
        Ob (a8 ≠ none ∧ 0 ≤ n14 ∧ n14 < (↑k9 : Int)) ∧
        ∃ n16,
        Reads H15 (elemA a8 n14 1) [Value.int IntKind.u8 n16] ∧
        Ob ((0 : Int) ≤ 8) ∧
        R11 [Value.int IntKind.i64 (bitsOp BinOp.or IntKind.i64 (shlI IntKind.i64 n13 8) (IntKind.i64.wrap n16)), Value.int IntKind.i64 (IntKind.i64.wrap (n14 + 1))] H15 ∧
        Less
        (M12 [Value.int IntKind.i64 (bitsOp BinOp.or IntKind.i64 (shlI IntKind.i64 n13 8) (IntKind.i64.wrap n16)), Value.int IntKind.i64 (IntKind.i64.wrap (n14 + 1))] H15)
        (M12 [Value.int IntKind.i64 n13, Value.int IntKind.i64 n14] H15)) ∧
        (decide (n14 < (↑k9 : Int)) = false → Q (Value.int IntKind.i64 n13) H15)) :
    Triple Go.Proofs.Try.prog 31 ([Value.pointer a1, Value.int IntKind.i64 n2]).toArray H Q :=
  Triple.of_vc rNum.cx (by kernel_rfl) h

theorem rRaw.vc (a1 : Option Addr) (n2 : Int) (H : PHeap) (Q : Value → PHeap → Prop)
    (h : ∀ (k3 : Nat),
  H k3 = none →
    Triple Proofs.Try.prog 40 #[Value.pointer a1, Value.int IntKind.i64 n2] (H.upd k3 (Obj.cells #[] 5)) fun v4 H5 =>
      ∃ a6 k7 k8,
        v4 = Value.slice a6 k7 k8 ∧
        EvV Proofs.Try.prog (Builtin.append_ #[34, 34] 34 #[Value.slice (at0 k3) 0 0, Value.slice a6 k7 k8]) H5 fun v9 H10 =>
        ∃ a11 k12 k13, v9 = Value.slice a11 k12 k13 ∧ Q (Value.slice a11 k12 k13) H10) :
    Triple Go.Proofs.Try.prog 32 ([Value.pointer a1, Value.int IntKind.i64 n2]).toArray H Q :=
  Triple.of_vc rRaw.cx (by kernel_rfl) h

theorem rGood.vc (a1 : Option Addr) (H : PHeap) (Q : Value → PHeap → Prop)
    (h : ((!a1.isNone) = true → Ob (a1 ≠ none) ∧ Ob (a1 ≠ none) ∧ ∃ b2, Reads H (fldA a1 1) [Value.bool b2] ∧ Q (Value.bool !b2) H) ∧ ((!a1.isNone) = !true → Q (Value.bool false) H)) :
    Triple Go.Proofs.Try.prog 33 ([Value.pointer a1]).toArray H Q :=
  Triple.of_vc rGood.cx (by kernel_rfl) h

theorem rCut.vc (a1 : Option Addr) (n2 : Int) (H : PHeap) (Q : Value → PHeap → Prop)
    (h : (a1.isNone = true → Q (Value.slice none 0 0) H) ∧
  (a1.isNone = false →
    Ob (a1 ≠ none) ∧
      Ob (a1 ≠ none) ∧
        ∃ b3,
        Reads H (fldA a1 1) [Value.bool b3] ∧
        (b3 = false →
        Ob (a1 ≠ none) ∧
        Ob (a1 ≠ none) ∧
        ∃ a4 k5 k6,
        Reads H (fldA a1 0) [Value.slice a4 k5 k6] ∧
        (decide (maxI n2 0 > (↑k5 : Int)) = true →
        Ob (a1 ≠ none) ∧
        Ob (a1 ≠ none) ∧
        ∃ H7,
        Writes H H7 (fldA a1 0) [Value.slice none 0 0] ∧ Ob (a1 ≠ none) ∧ Ob (a1 ≠ none) ∧ ∃ H8, Writes H7 H8 (fldA a1 1) [Value.bool true] ∧ Q (Value.slice none 0 0) H8) ∧
        (decide (maxI n2 0 > (↑k5 : Int)) = false →
        Ob (a1 ≠ none) ∧
        Ob (a1 ≠ none) ∧
        ∃ a9 k10 k11,
        Reads H (fldA a1 0) [Value.slice a9 k10 k11] ∧
        Ob ((0 : Int) ≤ 0 ∧ 0 ≤ maxI n2 0 ∧ maxI n2 0 ≤ maxI n2 0 ∧ maxI n2 0 ≤ (↑k11 : Int)) ∧
        Ob (a1 ≠ none) ∧
        Ob (a1 ≠ none) ∧
        ∃ a12 k13 k14,
        Reads H (fldA a1 0) [Value.slice a12 k13 k14] ∧
        Ob (0 ≤ maxI n2 0 ∧ maxI n2 0 ≤ (↑k13 : Int) ∧ (↑k13 : Int) ≤ (↑k14 : Int)) ∧
        Ob (a1 ≠ none) ∧
        Ob (a1 ≠ none) ∧
        ∃ H15,
        Writes H H15 (fldA a1 0) [Value.slice (slA a12 (maxI n2 0) k14 1) ((↑k13 : Int).toNat - (maxI n2 0).toNat) (k14 - (maxI n2 0).toNat)] ∧
        Q (Value.slice (slA a9 0 (maxI n2 0).toNat 1) ((maxI n2 0).toNat - Int.toNat 0) ((maxI n2 0).toNat - Int.toNat 0)) H15)) ∧
        (b3 = !false →
        Ob (a1 ≠ none) ∧
        Ob (a1 ≠ none) ∧
        ∃ H16, Writes H H16 (fldA a1 0) [Value.slice none 0 0] ∧ Ob (a1 ≠ none) ∧ Ob (a1 ≠ none) ∧ ∃ H17, Writes H16 H17 (fldA a1 1) [Value.bool true] ∧ Q (Value.slice none 0 0) H17))) :
    Triple Go.Proofs.Try.prog 40 ([Value.pointer a1, Value.int IntKind.i64 n2]).toArray H Q :=
  Triple.of_vc rCut.cx (by kernel_rfl) h

theorem rLeft.vc (a1 : Option Addr) (H : PHeap) (Q : Value → PHeap → Prop)
    (h : (a1.isNone = true → Q (Value.int IntKind.i64 0) H) ∧
  (a1.isNone = false → Ob (a1 ≠ none) ∧ Ob (a1 ≠ none) ∧ ∃ a2 k3 k4, Reads H (fldA a1 0) [Value.slice a2 k3 k4] ∧ Q (Value.int IntKind.i64 (↑k3 : Int)) H)) :
    Triple Go.Proofs.Try.prog 24 ([Value.pointer a1]).toArray H Q :=
  Triple.of_vc rLeft.cx (by kernel_rfl) h

theorem read.vc (a1 : Option Addr) (k2 : Nat) (k3 : Nat) (H : PHeap) (Q : Value → PHeap → Prop)
    (h : ∀ (k4 : Nat), H k4 = none → Q (Value.pointer (at0 k4)) (H.upd k4 (Obj.cells #[Value.slice a1 k2 k3, Value.bool false] 62))) :
    Triple Go.Proofs.Try.prog 22 ([Value.slice a1 k2 k3]).toArray H Q :=
  Triple.of_vc read.cx (by kernel_rfl) h

end Go.Vc
