/- What is to be shown of each function, in its normal form. Printed by a program of this session's, checked by the kernel. -/
import Derived.Test.YthcfmcmmmpfjoaaE2
import Derived.Test.YthcfmcmmmpfjoaaProg
set_option linter.unusedVariables false
set_option maxRecDepth 100000
namespace Go.Vc
open Go.Vx Go
def planAll.cx : Cx := ⟨[1], [], [], []⟩
def planAll1.cx : Cx := ⟨[], [(3, [2, 6], [])], [], []⟩
def planOfL.cx : Cx := ⟨[], [], [], []⟩
def refPAll.cx : Cx := ⟨[], [(3, [3, 4], [])], [], []⟩

theorem planAll.vc (n1 : Int) (n2 : Int) (n3 : Int) (n4 : Int) (n5 : Int) (n6 : Int) (H : PHeap) (Q : Value → PHeap → Prop)
    (h : ∀ (k7 : Nat),
  H k7 = none →
    ∃ n8 n9 n10 n11 n12 n13,
      Reads (H.upd k7 (Obj.cells #[Value.int IntKind.i64 n1, Value.int IntKind.i64 n2, Value.int IntKind.i64 n3, Value.int IntKind.i64 n4, Value.int IntKind.i64 n5, Value.int IntKind.i64 n6] 23))
        (at0 k7)
        [Value.int IntKind.i64 n8, Value.int IntKind.i64 n9, Value.int IntKind.i64 n10, Value.int IntKind.i64 n11, Value.int IntKind.i64 n12, Value.int IntKind.i64 n13] ∧
        Triple Proofs.Try.prog 71
        #[Value.agg #[Value.int IntKind.i64 n8, Value.int IntKind.i64 n9, Value.int IntKind.i64 n10, Value.int IntKind.i64 n11, Value.int IntKind.i64 n12, Value.int IntKind.i64 n13],
        Value.func (Fn.func 72) #[] #[Value.pointer (at0 k7)]]
        (H.upd k7 (Obj.cells #[Value.int IntKind.i64 n1, Value.int IntKind.i64 n2, Value.int IntKind.i64 n3, Value.int IntKind.i64 n4, Value.int IntKind.i64 n5, Value.int IntKind.i64 n6] 23))
        fun v14 H15 => ∃ a16 k17 k18, v14 = Value.slice a16 k17 k18 ∧ Q (Value.slice a16 k17 k18) H15) :
    Triple Go.Proofs.Try.prog 43 ([Value.agg #[Value.int IntKind.i64 n1, Value.int IntKind.i64 n2, Value.int IntKind.i64 n3, Value.int IntKind.i64 n4, Value.int IntKind.i64 n5, Value.int IntKind.i64 n6]]).toArray H Q :=
  Triple.of_vc planAll.cx (by kernel_rfl) h

theorem planAll1.vc (a1 : Option Addr) (H : PHeap) (Q : Value → PHeap → Prop)
    (h : Ob (a1 ≠ none) ∧
  ∃ n2,
    Reads H (fldA a1 0) [Value.int IntKind.i64 n2] ∧
      ∃ (R3 : Rl) (M4 : Mu),
        R3 [Value.slice none 0 0, Value.int IntKind.i64 0] H ∧
        ∀ (a5 : Option Addr) (k6 k7 : Nat) (n8 : Int) (H9 : PHeap),
        R3 [Value.slice a5 k6 k7, Value.int IntKind.i64 n8] H9 →
        (decide (n8 < n2) = true →
        ∀ (k10 : Nat),
        H9 k10 = none →
        EvV Proofs.Try.prog (Builtin.append_ #[29, 29] 29 #[Value.slice a5 k6 k7, Value.slice (at0 k10) 1 1])
        (H9.upd k10 (Obj.cells #[Value.int IntKind.i64 (IntKind.i64.wrap (n8 + 1))] 3)) fun v11 H12 =>
        ∃ a13 k14 k15,
        v11 = Value.slice a13 k14 k15 ∧
        R3 [Value.slice a13 k14 k15, Value.int IntKind.i64 (IntKind.i64.wrap (n8 + 1))] H12 ∧
        Less (M4 [Value.slice a13 k14 k15, Value.int IntKind.i64 (IntKind.i64.wrap (n8 + 1))] H12) (M4 [Value.slice a5 k6 k7, Value.int IntKind.i64 n8] H9)) ∧
        (decide (n8 < n2) = false → Q (Value.slice a5 k6 k7) H9)) :
    Triple Go.Proofs.Try.prog 72 ([Value.pointer a1]).toArray H Q :=
  Triple.of_vc planAll1.cx (by kernel_rfl) h

theorem planOfL.vc (n1 : Int) (n2 : Int) (n3 : Int) (n4 : Int) (n5 : Int) (n6 : Int) (v7 : Value) (H : PHeap) (Q : Value → PHeap → Prop)
    (h : Triple Proofs.Try.prog 39 #[Value.agg #[Value.int IntKind.i64 n1, Value.int IntKind.i64 n2, Value.int IntKind.i64 n3, Value.int IntKind.i64 n4, Value.int IntKind.i64 n5, Value.int IntKind.i64 n6]] H
  fun v8 H9 =>
  ∃ b10,
    v8 = Value.bool b10 ∧
      ((!b10) = true → Q (Value.slice none 0 0) H9) ∧ ((!b10) = false → CallY Proofs.Try.prog v7 #[] H9 fun v11 H12 => ∃ a13 k14 k15, v11 = Value.slice a13 k14 k15 ∧ Q (Value.slice a13 k14 k15) H12)) :
    Triple Go.Proofs.Try.prog 71 ([Value.agg #[Value.int IntKind.i64 n1, Value.int IntKind.i64 n2, Value.int IntKind.i64 n3, Value.int IntKind.i64 n4, Value.int IntKind.i64 n5, Value.int IntKind.i64 n6], v7]).toArray H Q :=
  Triple.of_vc planOfL.cx (by kernel_rfl) h

theorem refPAll.vc (n1 : Int) (n2 : Int) (n3 : Int) (n4 : Int) (n5 : Int) (n6 : Int) (H : PHeap) (Q : Value → PHeap → Prop)
    (h : ∃ (R7 : Rl) (M8 : Mu),
  R7 [Value.slice none 0 0, Value.int IntKind.i64 1] H ∧
    ∀ (a9 : Option Addr) (k10 k11 : Nat) (n12 : Int) (H13 : PHeap),
      R7 [Value.slice a9 k10 k11, Value.int IntKind.i64 n12] H13 →
        (decide (n12 ≤ n1) = true →
        ∀ (k14 : Nat),
        H13 k14 = none →
        EvV Proofs.Try.prog (Builtin.append_ #[29, 29] 29 #[Value.slice a9 k10 k11, Value.slice (at0 k14) 1 1]) (H13.upd k14 (Obj.cells #[Value.int IntKind.i64 n12] 3))
        fun v15 H16 =>
        ∃ a17 k18 k19,
        v15 = Value.slice a17 k18 k19 ∧
        R7 [Value.slice a17 k18 k19, Value.int IntKind.i64 (IntKind.i64.wrap (n12 + 1))] H16 ∧
        Less (M8 [Value.slice a17 k18 k19, Value.int IntKind.i64 (IntKind.i64.wrap (n12 + 1))] H16) (M8 [Value.slice a9 k10 k11, Value.int IntKind.i64 n12] H13)) ∧
        (decide (n12 ≤ n1) = false → Q (Value.slice a9 k10 k11) H13)) :
    Triple Go.Proofs.Try.prog 54 ([Value.agg #[Value.int IntKind.i64 n1, Value.int IntKind.i64 n2, Value.int IntKind.i64 n3, Value.int IntKind.i64 n4, Value.int IntKind.i64 n5, Value.int IntKind.i64 n6]]).toArray H Q :=
  Triple.of_vc refPAll.cx (by kernel_rfl) h

end Go.Vc
