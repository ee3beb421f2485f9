/- What is to be shown of each function, in its normal form. Printed by a program of this session's, checked by the kernel. -/
import Derived.Test.YtkmojhkmekijoabVxN
import Derived.Test.YtkmojhkmekijoabProg
set_option linter.unusedVariables false
set_option maxRecDepth 100000
namespace Go.Vc
open Go.Vx Go
def right.cx : Cx := ⟨[], [], []⟩
def blank.cx : Cx := ⟨[], [], []⟩
def rRight.cx : Cx := ⟨[], [], []⟩
def hear.cx : Cx := ⟨[], [], []⟩
def deal.cx : Cx := ⟨[], [], []⟩
def join.cx : Cx := ⟨[], [], []⟩
def doubt.cx : Cx := ⟨[], [], []⟩

theorem right.vc (n1 : Int) (n2 : Int) (n3 : Int) (H : PHeap) (Q : Value → PHeap → Prop)
    (h : ((n1 == 0 && (n2 == 0 && n3 == 0)) = true → Q (Value.bool true) H) ∧
  ((n1 == 0 && (n2 == 0 && n3 == 0)) = false →
    Q (Value.bool (bif decide (n2 ≥ 0) then bif decide (n2 ≤ n1) then bif decide (n1 ≤ 4294967295) then bif n3 == 1 then true else n3 == 2 else false else false else false)) H)) :
    Triple Go.Proofs.Try.prog 19 ([Value.agg #[Value.int IntKind.i64 n1, Value.int IntKind.i64 n2, Value.int IntKind.i64 n3]]).toArray H Q :=
  Triple.of_vc right.cx (by kernel_rfl) h

theorem blank.vc (n1 : Int) (n2 : Int) (n3 : Int) (H : PHeap) (Q : Value → PHeap → Prop)
    (h : Q (Value.bool (n1 == 0 && (n2 == 0 && n3 == 0))) H) :
    Triple Go.Proofs.Try.prog 20 ([Value.agg #[Value.int IntKind.i64 n1, Value.int IntKind.i64 n2, Value.int IntKind.i64 n3]]).toArray H Q :=
  Triple.of_vc blank.cx (by kernel_rfl) h

theorem rRight.vc (n1 : Int) (n2 : Int) (n3 : Int) (H : PHeap) (Q : Value → PHeap → Prop)
    (h : ((n3 == 0) = true → Q (Value.bool (bif n1 == 0 then n2 == 0 else false)) H) ∧
  ((n3 == 0) = false →
    Q (Value.bool (bif decide (n3 > 0) then bif decide (n3 < 3) then bif decide (n2 ≥ 0) then bif decide (n1 ≥ n2) then decide (n1 < 4294967296) else false else false else false else false)) H)) :
    Triple Go.Proofs.Try.prog 5 ([Value.agg #[Value.int IntKind.i64 n1, Value.int IntKind.i64 n2, Value.int IntKind.i64 n3]]).toArray H Q :=
  Triple.of_vc rRight.cx (by kernel_rfl) h

theorem hear.vc (n1 : Int) (n2 : Int) (n3 : Int) (n4 : Int) (H : PHeap) (Q : Value → PHeap → Prop)
    (h : Triple Proofs.Try.prog 19 #[Value.agg #[Value.int IntKind.i64 n1, Value.int IntKind.i64 n2, Value.int IntKind.i64 n3]] H fun v5 H6 =>
  ∃ b7,
    v5 = Value.bool b7 ∧
      ((bif !b7 then true else bif decide (n4 < n1) then true else decide (n4 > 4294967295)) = true →
        Q (Value.tuple #[Value.agg #[Value.int IntKind.i64 n1, Value.int IntKind.i64 n2, Value.int IntKind.i64 n3], Value.int IntKind.i64 1]) H6) ∧
        ((bif !b7 then true else bif decide (n4 < n1) then true else decide (n4 > 4294967295)) = false →
        ((n4 == n1) = true →
        Triple Proofs.Try.prog 20 #[Value.agg #[Value.int IntKind.i64 n1, Value.int IntKind.i64 n2, Value.int IntKind.i64 n3]] H6 fun v8 H9 =>
        ∃ b10,
        v8 = Value.bool b10 ∧
        ((!b10) = true → Q (Value.tuple #[Value.agg #[Value.int IntKind.i64 n1, Value.int IntKind.i64 n2, Value.int IntKind.i64 n3], Value.int IntKind.i64 2]) H9) ∧
        ((!b10) = false →
        Triple Proofs.Try.prog 20 #[Value.agg #[Value.int IntKind.i64 n1, Value.int IntKind.i64 n2, Value.int IntKind.i64 n3]] H9 fun v11 H12 =>
        ∃ b13,
        v11 = Value.bool b13 ∧
        (b13 = true → Q (Value.tuple #[Value.agg #[Value.int IntKind.i64 n4, Value.int IntKind.i64 n4, Value.int IntKind.i64 2], Value.int IntKind.i64 3]) H12) ∧
        (b13 = false → Q (Value.tuple #[Value.agg #[Value.int IntKind.i64 n4, Value.int IntKind.i64 n2, Value.int IntKind.i64 n3], Value.int IntKind.i64 3]) H12))) ∧
        ((n4 == n1) = !true →
        Triple Proofs.Try.prog 20 #[Value.agg #[Value.int IntKind.i64 n1, Value.int IntKind.i64 n2, Value.int IntKind.i64 n3]] H6 fun v14 H15 =>
        ∃ b16,
        v14 = Value.bool b16 ∧
        (b16 = true → Q (Value.tuple #[Value.agg #[Value.int IntKind.i64 n4, Value.int IntKind.i64 n4, Value.int IntKind.i64 2], Value.int IntKind.i64 3]) H15) ∧
        (b16 = false → Q (Value.tuple #[Value.agg #[Value.int IntKind.i64 n4, Value.int IntKind.i64 n2, Value.int IntKind.i64 n3], Value.int IntKind.i64 3]) H15)))) :
    Triple Go.Proofs.Try.prog 10 ([Value.agg #[Value.int IntKind.i64 n1, Value.int IntKind.i64 n2, Value.int IntKind.i64 n3], Value.int IntKind.i64 n4]).toArray H Q :=
  Triple.of_vc hear.cx (by kernel_rfl) h

theorem deal.vc (n1 : Int) (n2 : Int) (n3 : Int) (H : PHeap) (Q : Value → PHeap → Prop)
    (h : Triple Proofs.Try.prog 19 #[Value.agg #[Value.int IntKind.i64 n1, Value.int IntKind.i64 n2, Value.int IntKind.i64 n3]] H fun v4 H5 =>
  ∃ b6,
    v4 = Value.bool b6 ∧
      ((!b6) = false →
        Triple Proofs.Try.prog 20 #[Value.agg #[Value.int IntKind.i64 n1, Value.int IntKind.i64 n2, Value.int IntKind.i64 n3]] H5 fun v7 H8 =>
        ∃ b9,
        v7 = Value.bool b9 ∧
        ((bif b9 then true else decide (n2 ≥ n1)) = true → Q (Value.tuple #[Value.agg #[Value.int IntKind.i64 n1, Value.int IntKind.i64 n2, Value.int IntKind.i64 n3], Value.bool false]) H8) ∧
        ((bif b9 then true else decide (n2 ≥ n1)) = false →
        Q (Value.tuple #[Value.agg #[Value.int IntKind.i64 n1, Value.int IntKind.i64 n1, Value.int IntKind.i64 n3], Value.bool true]) H8)) ∧
        ((!b6) = !false → Q (Value.tuple #[Value.agg #[Value.int IntKind.i64 n1, Value.int IntKind.i64 n2, Value.int IntKind.i64 n3], Value.bool false]) H5)) :
    Triple Go.Proofs.Try.prog 9 ([Value.agg #[Value.int IntKind.i64 n1, Value.int IntKind.i64 n2, Value.int IntKind.i64 n3]]).toArray H Q :=
  Triple.of_vc deal.cx (by kernel_rfl) h

theorem join.vc (n1 : Int) (n2 : Int) (n3 : Int) (H : PHeap) (Q : Value → PHeap → Prop)
    (h : Triple Proofs.Try.prog 19 #[Value.agg #[Value.int IntKind.i64 n1, Value.int IntKind.i64 n2, Value.int IntKind.i64 n3]] H fun v4 H5 =>
  ∃ b6,
    v4 = Value.bool b6 ∧
      ((bif b6 then n3 == 1 else false) = true → Q (Value.tuple #[Value.agg #[Value.int IntKind.i64 n1, Value.int IntKind.i64 n2, Value.int IntKind.i64 n3], Value.bool true]) H5) ∧
        ((bif b6 then n3 == 1 else false) = false →
        Triple Proofs.Try.prog 9 #[Value.agg #[Value.int IntKind.i64 n1, Value.int IntKind.i64 n2, Value.int IntKind.i64 n3]] H5 fun v7 H8 =>
        ∃ n9 n10 n11 b12,
        v7 = Value.tuple #[Value.agg #[Value.int IntKind.i64 n9, Value.int IntKind.i64 n10, Value.int IntKind.i64 n11], Value.bool b12] ∧
        ((!b12) = true → Q (Value.tuple #[Value.agg #[Value.int IntKind.i64 n1, Value.int IntKind.i64 n2, Value.int IntKind.i64 n3], Value.bool false]) H8) ∧
        ((!b12) = false → Q (Value.tuple #[Value.agg #[Value.int IntKind.i64 n9, Value.int IntKind.i64 n10, Value.int IntKind.i64 1], Value.bool true]) H8))) :
    Triple Go.Proofs.Try.prog 8 ([Value.agg #[Value.int IntKind.i64 n1, Value.int IntKind.i64 n2, Value.int IntKind.i64 n3]]).toArray H Q :=
  Triple.of_vc join.cx (by kernel_rfl) h

theorem doubt.vc (n1 : Int) (n2 : Int) (n3 : Int) (H : PHeap) (Q : Value → PHeap → Prop)
    (h : Triple Proofs.Try.prog 19 #[Value.agg #[Value.int IntKind.i64 n1, Value.int IntKind.i64 n2, Value.int IntKind.i64 n3]] H fun v4 H5 =>
  ∃ b6,
    v4 = Value.bool b6 ∧
      (b6 = true → Q (Value.agg #[Value.int IntKind.i64 n1, Value.int IntKind.i64 n1, Value.int IntKind.i64 2]) H5) ∧
        (b6 = false → Q (Value.agg #[Value.int IntKind.i64 n1, Value.int IntKind.i64 n2, Value.int IntKind.i64 n3]) H5)) :
    Triple Go.Proofs.Try.prog 7 ([Value.agg #[Value.int IntKind.i64 n1, Value.int IntKind.i64 n2, Value.int IntKind.i64 n3]]).toArray H Q :=
  Triple.of_vc doubt.cx (by kernel_rfl) h

end Go.Vc
