/- What is to be shown of each function, in its normal form. Printed by a program of this session's, checked by the kernel. -/
import Derived.Test.YthcfmcmmmpfjoaaE2
import Derived.Test.YthcfmcmmmpfjoaaProg
set_option linter.unusedVariables false
set_option maxRecDepth 100000
namespace Go.Vc
open Go.Vx Go
def planRight.cx : Cx := ⟨[], [], [], []⟩
def planIn.cx : Cx := ⟨[], [], [], []⟩
def planQuorum.cx : Cx := ⟨[1], [], [], []⟩
def planQuorum1.cx : Cx := ⟨[], [], [], []⟩
def planOfI.cx : Cx := ⟨[], [], [], []⟩
def refPRight.cx : Cx := ⟨[], [], [], []⟩

theorem planRight.vc (n1 : Int) (n2 : Int) (n3 : Int) (n4 : Int) (n5 : Int) (n6 : Int) (H : PHeap) (Q : Value → PHeap → Prop)
    (h : Triple Proofs.Try.prog 60 #[Value.int IntKind.i64 n2, Value.int IntKind.i64 1, Value.int IntKind.i64 256] H fun v7 H8 =>
  ∃ b9,
    v7 = Value.bool b9 ∧
      ((!b9) = false →
        Triple Proofs.Try.prog 60 #[Value.int IntKind.i64 n3, Value.int IntKind.i64 1, Value.int IntKind.i64 256] H8 fun v10 H11 =>
        ∃ b12,
        v10 = Value.bool b12 ∧
        ((!b12) = false →
        Triple Proofs.Try.prog 60 #[Value.int IntKind.i64 n4, Value.int IntKind.i64 1, Value.int IntKind.i64 256] H11 fun v13 H14 =>
        ∃ b15,
        v13 = Value.bool b15 ∧
        ((!b15) = false →
        Triple Proofs.Try.prog 60 #[Value.int IntKind.i64 n1, Value.int IntKind.i64 1, Value.int IntKind.i64 256] H14 fun v16 H17 =>
        ∃ b18,
        v16 = Value.bool b18 ∧
        ((!b18) = true → Q (Value.bool false) H17) ∧
        ((!b18) = false →
        (decide (IntKind.i64.wrap (n2 + n3) ≤ n4) = true →
        (decide (n4 ≤ n1) = true →
        (decide (IntKind.i64.wrap (n1 + n3) ≤ 256) = true →
        Triple Proofs.Try.prog 60 #[Value.int IntKind.i64 n5, Value.int IntKind.i64 1, Value.int IntKind.i64 256] H17 fun v19 H20 =>
        ∃ b21,
        v19 = Value.bool b21 ∧
        (b21 = true →
        Triple Proofs.Try.prog 60 #[Value.int IntKind.i64 n6, Value.int IntKind.i64 1, Value.int IntKind.i64 64] H20 fun v22 H23 =>
        ∃ b24, v22 = Value.bool b24 ∧ Q (Value.bool b24) H23) ∧
        (b21 = !true → Q (Value.bool false) H20)) ∧
        (decide (IntKind.i64.wrap (n1 + n3) ≤ 256) = !true → Q (Value.bool false) H17)) ∧
        (decide (n4 ≤ n1) = !true → Q (Value.bool false) H17)) ∧
        (decide (IntKind.i64.wrap (n2 + n3) ≤ n4) = !true → Q (Value.bool false) H17))) ∧
        ((!b15) = !false → Q (Value.bool false) H14)) ∧
        ((!b12) = !false → Q (Value.bool false) H11)) ∧
        ((!b9) = !false → Q (Value.bool false) H8)) :
    Triple Go.Proofs.Try.prog 39 ([Value.agg #[Value.int IntKind.i64 n1, Value.int IntKind.i64 n2, Value.int IntKind.i64 n3, Value.int IntKind.i64 n4, Value.int IntKind.i64 n5, Value.int IntKind.i64 n6]]).toArray H Q :=
  Triple.of_vc planRight.cx (by kernel_rfl) h

theorem planIn.vc (n1 : Int) (n2 : Int) (n3 : Int) (H : PHeap) (Q : Value → PHeap → Prop)
    (h : Q (Value.bool (bif decide (n1 ≥ n2) then decide (n1 ≤ n3) else false)) H) :
    Triple Go.Proofs.Try.prog 60 ([Value.int IntKind.i64 n1, Value.int IntKind.i64 n2, Value.int IntKind.i64 n3]).toArray H Q :=
  Triple.of_vc planIn.cx (by kernel_rfl) h

theorem planQuorum.vc (n1 : Int) (n2 : Int) (n3 : Int) (n4 : Int) (n5 : Int) (n6 : Int) (H : PHeap) (Q : Value → PHeap → Prop)
    (h : ∀ (k7 : Nat),
  H k7 = none →
    ∃ n8 n9 n10 n11 n12 n13,
      Reads (H.upd k7 (Obj.cells #[Value.int IntKind.i64 n1, Value.int IntKind.i64 n2, Value.int IntKind.i64 n3, Value.int IntKind.i64 n4, Value.int IntKind.i64 n5, Value.int IntKind.i64 n6] 23))
        (at0 k7)
        [Value.int IntKind.i64 n8, Value.int IntKind.i64 n9, Value.int IntKind.i64 n10, Value.int IntKind.i64 n11, Value.int IntKind.i64 n12, Value.int IntKind.i64 n13] ∧
        Triple Proofs.Try.prog 85
        #[Value.agg #[Value.int IntKind.i64 n8, Value.int IntKind.i64 n9, Value.int IntKind.i64 n10, Value.int IntKind.i64 n11, Value.int IntKind.i64 n12, Value.int IntKind.i64 n13],
        Value.func (Fn.func 86) #[] #[Value.pointer (at0 k7)]]
        (H.upd k7 (Obj.cells #[Value.int IntKind.i64 n1, Value.int IntKind.i64 n2, Value.int IntKind.i64 n3, Value.int IntKind.i64 n4, Value.int IntKind.i64 n5, Value.int IntKind.i64 n6] 23))
        fun v14 H15 => ∃ n16, v14 = Value.int IntKind.i64 n16 ∧ Q (Value.int IntKind.i64 n16) H15) :
    Triple Go.Proofs.Try.prog 66 ([Value.agg #[Value.int IntKind.i64 n1, Value.int IntKind.i64 n2, Value.int IntKind.i64 n3, Value.int IntKind.i64 n4, Value.int IntKind.i64 n5, Value.int IntKind.i64 n6]]).toArray H Q :=
  Triple.of_vc planQuorum.cx (by kernel_rfl) h

theorem planQuorum1.vc (a1 : Option Addr) (H : PHeap) (Q : Value → PHeap → Prop)
    (h : Ob (a1 ≠ none) ∧
  ∃ n2,
    Reads H (fldA a1 0) [Value.int IntKind.i64 n2] ∧
      Ob (a1 ≠ none) ∧ ∃ n3, Reads H (fldA a1 3) [Value.int IntKind.i64 n3] ∧ Q (Value.int IntKind.i64 (IntKind.i64.wrap (IntKind.i64.wrap (n2 - n3) + 1))) H) :
    Triple Go.Proofs.Try.prog 86 ([Value.pointer a1]).toArray H Q :=
  Triple.of_vc planQuorum1.cx (by kernel_rfl) h

theorem planOfI.vc (n1 : Int) (n2 : Int) (n3 : Int) (n4 : Int) (n5 : Int) (n6 : Int) (v7 : Value) (H : PHeap) (Q : Value → PHeap → Prop)
    (h : Triple Proofs.Try.prog 39 #[Value.agg #[Value.int IntKind.i64 n1, Value.int IntKind.i64 n2, Value.int IntKind.i64 n3, Value.int IntKind.i64 n4, Value.int IntKind.i64 n5, Value.int IntKind.i64 n6]] H
  fun v8 H9 =>
  ∃ b10,
    v8 = Value.bool b10 ∧
      ((!b10) = true → Q (Value.int IntKind.i64 0) H9) ∧ ((!b10) = false → CallY Proofs.Try.prog v7 #[] H9 fun v11 H12 => ∃ n13, v11 = Value.int IntKind.i64 n13 ∧ Q (Value.int IntKind.i64 n13) H12)) :
    Triple Go.Proofs.Try.prog 85 ([Value.agg #[Value.int IntKind.i64 n1, Value.int IntKind.i64 n2, Value.int IntKind.i64 n3, Value.int IntKind.i64 n4, Value.int IntKind.i64 n5, Value.int IntKind.i64 n6], v7]).toArray H Q :=
  Triple.of_vc planOfI.cx (by kernel_rfl) h

theorem refPRight.vc (n1 : Int) (n2 : Int) (n3 : Int) (n4 : Int) (n5 : Int) (n6 : Int) (H : PHeap) (Q : Value → PHeap → Prop)
    (h : ((bif decide (n2 < 1) then true
      else bif decide (n3 < 1) then true else bif decide (n1 > 256) then true else bif decide (n4 > n1) then true else bif decide (n2 > 256) then true else decide (n3 > 256)) =
      true →
    Q (Value.bool false) H) ∧
  ((bif decide (n2 < 1) then true
      else bif decide (n3 < 1) then true else bif decide (n1 > 256) then true else bif decide (n4 > n1) then true else bif decide (n2 > 256) then true else decide (n3 > 256)) =
      false →
    Q
      (Value.bool
        (bif decide (IntKind.i64.wrap (n2 + n3) ≤ n4) then
        bif decide (IntKind.i64.wrap (n1 + n3) ≤ 256) then bif decide (n5 ≥ 1) then bif decide (n5 ≤ 256) then bif decide (n6 ≥ 1) then decide (n6 ≤ 64) else false else false else false else false
        else false))
      H)) :
    Triple Go.Proofs.Try.prog 6 ([Value.agg #[Value.int IntKind.i64 n1, Value.int IntKind.i64 n2, Value.int IntKind.i64 n3, Value.int IntKind.i64 n4, Value.int IntKind.i64 n5, Value.int IntKind.i64 n6]]).toArray H Q :=
  Triple.of_vc refPRight.cx (by kernel_rfl) h

end Go.Vc
