/- What is to be shown of each function, in its normal form. Printed by a program of this session's, checked by the kernel. -/
import Derived.Test.YtkmojhkmekijoaaVxN
import Derived.Test.YtkmojhkmekijoaaProg
set_option linter.unusedVariables false
set_option maxRecDepth 100000
namespace Go.Vc
open Go.Vx Go
def f22.cx : Cx := ⟨[], [], []⟩
def f23.cx : Cx := ⟨[], [], []⟩
def f24.cx : Cx := ⟨[], [], []⟩
def f11.cx : Cx := ⟨[], [], []⟩
def f12.cx : Cx := ⟨[], [], []⟩
def f13.cx : Cx := ⟨[], [], []⟩
def f14.cx : Cx := ⟨[], [], []⟩
def f15.cx : Cx := ⟨[], [], []⟩
def f16.cx : Cx := ⟨[], [], []⟩
def f17.cx : Cx := ⟨[], [], []⟩
def f18.cx : Cx := ⟨[], [], []⟩
def f19.cx : Cx := ⟨[], [], []⟩
def f4.cx : Cx := ⟨[], [], []⟩

theorem f22.vc (n1 : Int) (n2 : Int) (n3 : Int) (H : PHeap) (Q : Value → PHeap → Prop)
    (h : ((n1 == 0 && (n2 == 0 && n3 == 0)) = true → Q (Value.bool true) H) ∧
  ((n1 == 0 && (n2 == 0 && n3 == 0)) = false →
    Q (Value.bool (bif decide (n2 ≥ 0) then bif decide (n2 ≤ n1) then bif decide (n1 ≤ 4294967295) then bif n3 == 1 then true else n3 == 2 else false else false else false)) H)) :
    Triple Go.Proofs.Try.prog 22 ([Value.agg #[Value.int IntKind.i64 n1, Value.int IntKind.i64 n2, Value.int IntKind.i64 n3]]).toArray H Q :=
  Triple.of_vc f22.cx (by kernel_rfl) h

theorem f23.vc (n1 : Int) (n2 : Int) (n3 : Int) (H : PHeap) (Q : Value → PHeap → Prop)
    (h : Q (Value.bool (n1 == 0 && (n2 == 0 && n3 == 0))) H) :
    Triple Go.Proofs.Try.prog 23 ([Value.agg #[Value.int IntKind.i64 n1, Value.int IntKind.i64 n2, Value.int IntKind.i64 n3]]).toArray H Q :=
  Triple.of_vc f23.cx (by kernel_rfl) h

theorem f24.vc (n1 : Int) (n2 : Int) (n3 : Int) (H : PHeap) (Q : Value → PHeap → Prop)
    (h : ((n3 == 0) = true → Q (Value.bool (bif n1 == 0 then n2 == 0 else false)) H) ∧
  ((n3 == 0) = false →
    Q (Value.bool (bif decide (n3 > 0) then bif decide (n3 < 3) then bif decide (n2 ≥ 0) then bif decide (n1 ≥ n2) then decide (n1 < 4294967296) else false else false else false else false)) H)) :
    Triple Go.Proofs.Try.prog 24 ([Value.agg #[Value.int IntKind.i64 n1, Value.int IntKind.i64 n2, Value.int IntKind.i64 n3]]).toArray H Q :=
  Triple.of_vc f24.cx (by kernel_rfl) h

theorem f11.vc (n1 : Int) (n2 : Int) (n3 : Int) (n4 : Int) (H : PHeap) (Q : Value → PHeap → Prop)
    (h : Triple Proofs.Try.prog 22 #[Value.agg #[Value.int IntKind.i64 n1, Value.int IntKind.i64 n2, Value.int IntKind.i64 n3]] H fun v5 H6 =>
  ∃ b7,
    v5 = Value.bool b7 ∧
      ((bif !b7 then true else bif decide (n4 < n1) then true else decide (n4 > 4294967295)) = true →
        Q (Value.tuple #[Value.agg #[Value.int IntKind.i64 n1, Value.int IntKind.i64 n2, Value.int IntKind.i64 n3], Value.int IntKind.i64 1]) H6) ∧
        ((bif !b7 then true else bif decide (n4 < n1) then true else decide (n4 > 4294967295)) = false →
        ((n4 == n1) = true →
        Triple Proofs.Try.prog 23 #[Value.agg #[Value.int IntKind.i64 n1, Value.int IntKind.i64 n2, Value.int IntKind.i64 n3]] H6 fun v8 H9 =>
        ∃ b10,
        v8 = Value.bool b10 ∧
        ((!b10) = true → Q (Value.tuple #[Value.agg #[Value.int IntKind.i64 n1, Value.int IntKind.i64 n2, Value.int IntKind.i64 n3], Value.int IntKind.i64 2]) H9) ∧
        ((!b10) = false →
        Triple Proofs.Try.prog 23 #[Value.agg #[Value.int IntKind.i64 n1, Value.int IntKind.i64 n2, Value.int IntKind.i64 n3]] H9 fun v11 H12 =>
        ∃ b13,
        v11 = Value.bool b13 ∧
        (b13 = true → Q (Value.tuple #[Value.agg #[Value.int IntKind.i64 n4, Value.int IntKind.i64 n4, Value.int IntKind.i64 2], Value.int IntKind.i64 3]) H12) ∧
        (b13 = false → Q (Value.tuple #[Value.agg #[Value.int IntKind.i64 n4, Value.int IntKind.i64 n2, Value.int IntKind.i64 n3], Value.int IntKind.i64 3]) H12))) ∧
        ((n4 == n1) = !true →
        Triple Proofs.Try.prog 23 #[Value.agg #[Value.int IntKind.i64 n1, Value.int IntKind.i64 n2, Value.int IntKind.i64 n3]] H6 fun v14 H15 =>
        ∃ b16,
        v14 = Value.bool b16 ∧
        (b16 = true → Q (Value.tuple #[Value.agg #[Value.int IntKind.i64 n4, Value.int IntKind.i64 n4, Value.int IntKind.i64 2], Value.int IntKind.i64 3]) H15) ∧
        (b16 = false → Q (Value.tuple #[Value.agg #[Value.int IntKind.i64 n4, Value.int IntKind.i64 n2, Value.int IntKind.i64 n3], Value.int IntKind.i64 3]) H15)))) :
    Triple Go.Proofs.Try.prog 11 ([Value.agg #[Value.int IntKind.i64 n1, Value.int IntKind.i64 n2, Value.int IntKind.i64 n3], Value.int IntKind.i64 n4]).toArray H Q :=
  Triple.of_vc f11.cx (by kernel_rfl) h

theorem f12.vc (n1 : Int) (n2 : Int) (n3 : Int) (n4 : Int) (H : PHeap) (Q : Value → PHeap → Prop)
    (h : Triple Proofs.Try.prog 24 #[Value.agg #[Value.int IntKind.i64 n1, Value.int IntKind.i64 n2, Value.int IntKind.i64 n3]] H fun v5 H6 =>
  ∃ b7,
    v5 = Value.bool b7 ∧
      ((bif !b7 then true else bif decide (n4 < n1) then true else decide (n4 > 4294967295)) = true →
        Q (Value.tuple #[Value.agg #[Value.int IntKind.i64 n1, Value.int IntKind.i64 n2, Value.int IntKind.i64 n3], Value.int IntKind.i64 1]) H6) ∧
        ((bif !b7 then true else bif decide (n4 < n1) then true else decide (n4 > 4294967295)) = false →
        ((n3 == 0) = true → Q (Value.tuple #[Value.agg #[Value.int IntKind.i64 n4, Value.int IntKind.i64 n4, Value.int IntKind.i64 2], Value.int IntKind.i64 3]) H6) ∧
        ((n3 == 0) = false →
        ((n4 == n1) = true → Q (Value.tuple #[Value.agg #[Value.int IntKind.i64 n1, Value.int IntKind.i64 n2, Value.int IntKind.i64 n3], Value.int IntKind.i64 2]) H6) ∧
        ((n4 == n1) = false → Q (Value.tuple #[Value.agg #[Value.int IntKind.i64 n4, Value.int IntKind.i64 n2, Value.int IntKind.i64 n3], Value.int IntKind.i64 3]) H6)))) :
    Triple Go.Proofs.Try.prog 12 ([Value.agg #[Value.int IntKind.i64 n1, Value.int IntKind.i64 n2, Value.int IntKind.i64 n3], Value.int IntKind.i64 n4]).toArray H Q :=
  Triple.of_vc f12.cx (by kernel_rfl) h

theorem f13.vc (n1 : Int) (n2 : Int) (n3 : Int) (H : PHeap) (Q : Value → PHeap → Prop)
    (h : Triple Proofs.Try.prog 22 #[Value.agg #[Value.int IntKind.i64 n1, Value.int IntKind.i64 n2, Value.int IntKind.i64 n3]] H fun v4 H5 =>
  ∃ b6,
    v4 = Value.bool b6 ∧
      ((!b6) = false →
        Triple Proofs.Try.prog 23 #[Value.agg #[Value.int IntKind.i64 n1, Value.int IntKind.i64 n2, Value.int IntKind.i64 n3]] H5 fun v7 H8 =>
        ∃ b9,
        v7 = Value.bool b9 ∧
        ((bif b9 then true else decide (n2 ≥ n1)) = true → Q (Value.tuple #[Value.agg #[Value.int IntKind.i64 n1, Value.int IntKind.i64 n2, Value.int IntKind.i64 n3], Value.bool false]) H8) ∧
        ((bif b9 then true else decide (n2 ≥ n1)) = false →
        Q (Value.tuple #[Value.agg #[Value.int IntKind.i64 n1, Value.int IntKind.i64 n1, Value.int IntKind.i64 n3], Value.bool true]) H8)) ∧
        ((!b6) = !false → Q (Value.tuple #[Value.agg #[Value.int IntKind.i64 n1, Value.int IntKind.i64 n2, Value.int IntKind.i64 n3], Value.bool false]) H5)) :
    Triple Go.Proofs.Try.prog 13 ([Value.agg #[Value.int IntKind.i64 n1, Value.int IntKind.i64 n2, Value.int IntKind.i64 n3]]).toArray H Q :=
  Triple.of_vc f13.cx (by kernel_rfl) h

theorem f14.vc (n1 : Int) (n2 : Int) (n3 : Int) (H : PHeap) (Q : Value → PHeap → Prop)
    (h : Triple Proofs.Try.prog 24 #[Value.agg #[Value.int IntKind.i64 n1, Value.int IntKind.i64 n2, Value.int IntKind.i64 n3]] H fun v4 H5 =>
  ∃ b6,
    v4 = Value.bool b6 ∧
      ((bif b6 then bif n3 != 0 then decide (n2 < n1) else false else false) = true →
        Q (Value.tuple #[Value.agg #[Value.int IntKind.i64 n1, Value.int IntKind.i64 n1, Value.int IntKind.i64 n3], Value.bool true]) H5) ∧
        ((bif b6 then bif n3 != 0 then decide (n2 < n1) else false else false) = false →
        Q (Value.tuple #[Value.agg #[Value.int IntKind.i64 n1, Value.int IntKind.i64 n2, Value.int IntKind.i64 n3], Value.bool false]) H5)) :
    Triple Go.Proofs.Try.prog 14 ([Value.agg #[Value.int IntKind.i64 n1, Value.int IntKind.i64 n2, Value.int IntKind.i64 n3]]).toArray H Q :=
  Triple.of_vc f14.cx (by kernel_rfl) h

theorem f15.vc (n1 : Int) (n2 : Int) (n3 : Int) (H : PHeap) (Q : Value → PHeap → Prop)
    (h : Triple Proofs.Try.prog 22 #[Value.agg #[Value.int IntKind.i64 n1, Value.int IntKind.i64 n2, Value.int IntKind.i64 n3]] H fun v4 H5 =>
  ∃ b6,
    v4 = Value.bool b6 ∧
      ((bif b6 then n3 == 1 else false) = true → Q (Value.tuple #[Value.agg #[Value.int IntKind.i64 n1, Value.int IntKind.i64 n2, Value.int IntKind.i64 n3], Value.bool true]) H5) ∧
        ((bif b6 then n3 == 1 else false) = false →
        Triple Proofs.Try.prog 13 #[Value.agg #[Value.int IntKind.i64 n1, Value.int IntKind.i64 n2, Value.int IntKind.i64 n3]] H5 fun v7 H8 =>
        ∃ n9 n10 n11 b12,
        v7 = Value.tuple #[Value.agg #[Value.int IntKind.i64 n9, Value.int IntKind.i64 n10, Value.int IntKind.i64 n11], Value.bool b12] ∧
        ((!b12) = true → Q (Value.tuple #[Value.agg #[Value.int IntKind.i64 n1, Value.int IntKind.i64 n2, Value.int IntKind.i64 n3], Value.bool false]) H8) ∧
        ((!b12) = false → Q (Value.tuple #[Value.agg #[Value.int IntKind.i64 n9, Value.int IntKind.i64 n10, Value.int IntKind.i64 1], Value.bool true]) H8))) :
    Triple Go.Proofs.Try.prog 15 ([Value.agg #[Value.int IntKind.i64 n1, Value.int IntKind.i64 n2, Value.int IntKind.i64 n3]]).toArray H Q :=
  Triple.of_vc f15.cx (by kernel_rfl) h

theorem f16.vc (n1 : Int) (n2 : Int) (n3 : Int) (H : PHeap) (Q : Value → PHeap → Prop)
    (h : Triple Proofs.Try.prog 24 #[Value.agg #[Value.int IntKind.i64 n1, Value.int IntKind.i64 n2, Value.int IntKind.i64 n3]] H fun v4 H5 =>
  ∃ b6,
    v4 = Value.bool b6 ∧
      ((bif b6 then n3 == 1 else false) = true → Q (Value.tuple #[Value.agg #[Value.int IntKind.i64 n1, Value.int IntKind.i64 n2, Value.int IntKind.i64 n3], Value.bool true]) H5) ∧
        ((bif b6 then n3 == 1 else false) = false →
        Triple Proofs.Try.prog 24 #[Value.agg #[Value.int IntKind.i64 n1, Value.int IntKind.i64 n2, Value.int IntKind.i64 n3]] H5 fun v7 H8 =>
        ∃ b9,
        v7 = Value.bool b9 ∧
        ((bif !b9 then true else bif n3 != 2 then true else decide (n2 ≥ n1)) = true →
        Q (Value.tuple #[Value.agg #[Value.int IntKind.i64 n1, Value.int IntKind.i64 n2, Value.int IntKind.i64 n3], Value.bool false]) H8) ∧
        ((bif !b9 then true else bif n3 != 2 then true else decide (n2 ≥ n1)) = false →
        Q (Value.tuple #[Value.agg #[Value.int IntKind.i64 n1, Value.int IntKind.i64 n1, Value.int IntKind.i64 1], Value.bool true]) H8))) :
    Triple Go.Proofs.Try.prog 16 ([Value.agg #[Value.int IntKind.i64 n1, Value.int IntKind.i64 n2, Value.int IntKind.i64 n3]]).toArray H Q :=
  Triple.of_vc f16.cx (by kernel_rfl) h

theorem f17.vc (n1 : Int) (n2 : Int) (n3 : Int) (H : PHeap) (Q : Value → PHeap → Prop)
    (h : Triple Proofs.Try.prog 22 #[Value.agg #[Value.int IntKind.i64 n1, Value.int IntKind.i64 n2, Value.int IntKind.i64 n3]] H fun v4 H5 =>
  ∃ b6,
    v4 = Value.bool b6 ∧
      (b6 = true → Q (Value.agg #[Value.int IntKind.i64 n1, Value.int IntKind.i64 n1, Value.int IntKind.i64 2]) H5) ∧
        (b6 = false → Q (Value.agg #[Value.int IntKind.i64 n1, Value.int IntKind.i64 n2, Value.int IntKind.i64 n3]) H5)) :
    Triple Go.Proofs.Try.prog 17 ([Value.agg #[Value.int IntKind.i64 n1, Value.int IntKind.i64 n2, Value.int IntKind.i64 n3]]).toArray H Q :=
  Triple.of_vc f17.cx (by kernel_rfl) h

theorem f18.vc (n1 : Int) (n2 : Int) (n3 : Int) (H : PHeap) (Q : Value → PHeap → Prop)
    (h : Triple Proofs.Try.prog 24 #[Value.agg #[Value.int IntKind.i64 n1, Value.int IntKind.i64 n2, Value.int IntKind.i64 n3]] H fun v4 H5 =>
  ∃ b6,
    v4 = Value.bool b6 ∧
      ((!b6) = true → Q (Value.agg #[Value.int IntKind.i64 n1, Value.int IntKind.i64 n2, Value.int IntKind.i64 n3]) H5) ∧
        ((!b6) = false → Q (Value.agg #[Value.int IntKind.i64 n1, Value.int IntKind.i64 n1, Value.int IntKind.i64 2]) H5)) :
    Triple Go.Proofs.Try.prog 18 ([Value.agg #[Value.int IntKind.i64 n1, Value.int IntKind.i64 n2, Value.int IntKind.i64 n3]]).toArray H Q :=
  Triple.of_vc f18.cx (by kernel_rfl) h

theorem f19.vc (H : PHeap) (Q : Value → PHeap → Prop)
    (h : Triple Proofs.Try.prog 11 #[Value.agg #[Value.int IntKind.i64 0, Value.int IntKind.i64 0, Value.int IntKind.i64 0], Value.int IntKind.i64 5] H fun v1 H2 =>
  ∃ n3 n4 n5 n6,
    v1 = Value.tuple #[Value.agg #[Value.int IntKind.i64 n3, Value.int IntKind.i64 n4, Value.int IntKind.i64 n5], Value.int IntKind.i64 n6] ∧
      Triple Proofs.Try.prog 11 #[Value.agg #[Value.int IntKind.i64 n3, Value.int IntKind.i64 n4, Value.int IntKind.i64 n5], Value.int IntKind.i64 4] H2 fun v7 H8 =>
        ∃ n9 n10 n11 n12,
        v7 = Value.tuple #[Value.agg #[Value.int IntKind.i64 n9, Value.int IntKind.i64 n10, Value.int IntKind.i64 n11], Value.int IntKind.i64 n12] ∧
        Triple Proofs.Try.prog 13 #[Value.agg #[Value.int IntKind.i64 n3, Value.int IntKind.i64 n4, Value.int IntKind.i64 n5]] H8 fun v13 H14 =>
        ∃ n15 n16 n17 b18,
        v13 = Value.tuple #[Value.agg #[Value.int IntKind.i64 n15, Value.int IntKind.i64 n16, Value.int IntKind.i64 n17], Value.bool b18] ∧
        Triple Proofs.Try.prog 13 #[Value.agg #[Value.int IntKind.i64 n15, Value.int IntKind.i64 n16, Value.int IntKind.i64 n17]] H14 fun v19 H20 =>
        ∃ n21 n22 n23 b24,
        v19 = Value.tuple #[Value.agg #[Value.int IntKind.i64 n21, Value.int IntKind.i64 n22, Value.int IntKind.i64 n23], Value.bool b24] ∧
        Triple Proofs.Try.prog 15 #[Value.agg #[Value.int IntKind.i64 6, Value.int IntKind.i64 5, Value.int IntKind.i64 2]] H20 fun v25 H26 =>
        ∃ n27 n28 n29 b30,
        v25 = Value.tuple #[Value.agg #[Value.int IntKind.i64 n27, Value.int IntKind.i64 n28, Value.int IntKind.i64 n29], Value.bool b30] ∧
        Q
        (Value.bool
        (bif n3 == 5 && (n4 == 5 && n5 == 2) then
        bif n6 == 3 then bif n12 == 1 then bif !b18 then bif !b24 then bif b30 then n29 == 1 else false else false else false else false else false
        else false))
        H26) :
    Triple Go.Proofs.Try.prog 19 ([]).toArray H Q :=
  Triple.of_vc f19.cx (by kernel_rfl) h

theorem f4.vc (n1 : Int) (n2 : Int) (n3 : Int) (n4 : Int) (H : PHeap) (Q : Value → PHeap → Prop)
    (h : Triple Proofs.Try.prog 11 #[Value.agg #[Value.int IntKind.i64 n1, Value.int IntKind.i64 n2, Value.int IntKind.i64 n3], Value.int IntKind.i64 n4] H fun v5 H6 =>
  ∃ n7 n8 n9 n10,
    v5 = Value.tuple #[Value.agg #[Value.int IntKind.i64 n7, Value.int IntKind.i64 n8, Value.int IntKind.i64 n9], Value.int IntKind.i64 n10] ∧
      Triple Proofs.Try.prog 12 #[Value.agg #[Value.int IntKind.i64 n1, Value.int IntKind.i64 n2, Value.int IntKind.i64 n3], Value.int IntKind.i64 n4] H6 fun v11 H12 =>
        ∃ n13 n14 n15 n16,
        v11 = Value.tuple #[Value.agg #[Value.int IntKind.i64 n13, Value.int IntKind.i64 n14, Value.int IntKind.i64 n15], Value.int IntKind.i64 n16] ∧
        Triple Proofs.Try.prog 13 #[Value.agg #[Value.int IntKind.i64 n1, Value.int IntKind.i64 n2, Value.int IntKind.i64 n3]] H12 fun v17 H18 =>
        ∃ n19 n20 n21 b22,
        v17 = Value.tuple #[Value.agg #[Value.int IntKind.i64 n19, Value.int IntKind.i64 n20, Value.int IntKind.i64 n21], Value.bool b22] ∧
        Triple Proofs.Try.prog 14 #[Value.agg #[Value.int IntKind.i64 n1, Value.int IntKind.i64 n2, Value.int IntKind.i64 n3]] H18 fun v23 H24 =>
        ∃ n25 n26 n27 b28,
        v23 = Value.tuple #[Value.agg #[Value.int IntKind.i64 n25, Value.int IntKind.i64 n26, Value.int IntKind.i64 n27], Value.bool b28] ∧
        Triple Proofs.Try.prog 15 #[Value.agg #[Value.int IntKind.i64 n1, Value.int IntKind.i64 n2, Value.int IntKind.i64 n3]] H24 fun v29 H30 =>
        ∃ n31 n32 n33 b34,
        v29 = Value.tuple #[Value.agg #[Value.int IntKind.i64 n31, Value.int IntKind.i64 n32, Value.int IntKind.i64 n33], Value.bool b34] ∧
        Triple Proofs.Try.prog 16 #[Value.agg #[Value.int IntKind.i64 n1, Value.int IntKind.i64 n2, Value.int IntKind.i64 n3]] H30 fun v35 H36 =>
        ∃ n37 n38 n39 b40,
        v35 = Value.tuple #[Value.agg #[Value.int IntKind.i64 n37, Value.int IntKind.i64 n38, Value.int IntKind.i64 n39], Value.bool b40] ∧
        ∃ H41,
        Vx.Sub H41 H36 ∧
        ((n7 == n13 && (n8 == n14 && n9 == n15)) = true →
        ((n10 == n16) = true →
        ((n19 == n25 && (n20 == n26 && n21 == n27)) = true →
        ((b22 == b28) = true →
        Triple Proofs.Try.prog 17 #[Value.agg #[Value.int IntKind.i64 n1, Value.int IntKind.i64 n2, Value.int IntKind.i64 n3]] H36 fun v42 H43 =>
        ∃ n44 n45 n46,
        v42 = Value.agg #[Value.int IntKind.i64 n44, Value.int IntKind.i64 n45, Value.int IntKind.i64 n46] ∧
        Vx.Sub H41 H43 ∧
        Triple Proofs.Try.prog 18 #[Value.agg #[Value.int IntKind.i64 n1, Value.int IntKind.i64 n2, Value.int IntKind.i64 n3]] H43
        fun v47 H48 =>
        ∃ n49 n50 n51,
        v47 = Value.agg #[Value.int IntKind.i64 n49, Value.int IntKind.i64 n50, Value.int IntKind.i64 n51] ∧
        Vx.Sub H41 H48 ∧
        ((n44 == n49 && (n45 == n50 && n46 == n51)) = true →
        ((n31 == n37 && (n32 == n38 && n33 == n39)) = true →
        ((b34 == b40) = true →
        Triple Proofs.Try.prog 19 #[] H48 fun v52 H53 =>
        ∃ b54, v52 = Value.bool b54 ∧ Vx.Sub H41 H53 ∧ Q (Value.bool b54) H53) ∧
        ((b34 == b40) = !true → Q (Value.bool false) H48)) ∧
        ((n31 == n37 && (n32 == n38 && n33 == n39)) = !true → Q (Value.bool false) H48)) ∧
        ((n44 == n49 && (n45 == n50 && n46 == n51)) = !true → Q (Value.bool false) H48)) ∧
        ((b22 == b28) = !true → Q (Value.bool false) H36)) ∧
        ((n19 == n25 && (n20 == n26 && n21 == n27)) = !true → Q (Value.bool false) H36)) ∧
        ((n10 == n16) = !true → Q (Value.bool false) H36)) ∧
        ((n7 == n13 && (n8 == n14 && n9 == n15)) = !true → Q (Value.bool false) H36)) :
    Triple Go.Proofs.Try.prog 4 ([Value.agg #[Value.int IntKind.i64 n1, Value.int IntKind.i64 n2, Value.int IntKind.i64 n3], Value.int IntKind.i64 n4]).toArray H Q :=
  Triple.of_vc f4.cx (by kernel_rfl) h

end Go.Vc
