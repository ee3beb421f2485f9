/- What is to be shown of each function, in its normal form. Printed by a program of this session's, checked by the kernel. -/
import Derived.Test.YthcfmcmmmpfjoaaE2
import Derived.Test.YthcfmcmmmpfjoaaProg
set_option linter.unusedVariables false
set_option maxRecDepth 100000
namespace Go.Vc
open Go.Vx Go
def sameS.cx : Cx := ⟨[], [(4, [5], [])], [], []⟩

theorem sameS.vc (a1 : Option Addr) (k2 : Nat) (k3 : Nat) (a4 : Option Addr) (k5 : Nat) (k6 : Nat) (H : PHeap) (Q : Value → PHeap → Prop)
    (h : (((↑k2 : Int) != (↑k5 : Int)) = true → Q (Value.bool false) H) ∧
  (((↑k2 : Int) != (↑k5 : Int)) = false →
    ∃ (R7 : Rl) (M8 : Mu),
      R7 [Value.int IntKind.i64 0] H ∧
        ∀ (n9 : Int) (H10 : PHeap),
        R7 [Value.int IntKind.i64 n9] H10 →
        (decide (n9 < (↑k2 : Int)) = true →
        ∃ H11,
        Vx.Sub H11 H10 ∧
        Ob (a1 ≠ none ∧ 0 ≤ n9 ∧ n9 < (↑k2 : Int)) ∧
        ∃ s12,
        Reads H11 (elemA a1 n9 1) [Value.string s12] ∧
        Ob (a4 ≠ none ∧ 0 ≤ n9 ∧ n9 < (↑k5 : Int)) ∧
        ∃ s13,
        Reads H11 (elemA a4 n9 1) [Value.string s13] ∧
        ((!eqS s12 s13) = true → Q (Value.bool false) H10) ∧
        ((!eqS s12 s13) = false →
        R7 [Value.int IntKind.i64 (IntKind.i64.wrap (n9 + 1))] H10 ∧
        Less (M8 [Value.int IntKind.i64 (IntKind.i64.wrap (n9 + 1))] H10) (M8 [Value.int IntKind.i64 n9] H10))) ∧
        (decide (n9 < (↑k2 : Int)) = false → Q (Value.bool true) H10))) :
    Triple Go.Proofs.Try.prog 55 ([Value.slice a1 k2 k3, Value.slice a4 k5 k6]).toArray H Q :=
  Triple.of_vc sameS.cx (by kernel_rfl) h

end Go.Vc
