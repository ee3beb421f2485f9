/- What is to be shown of each function, in its normal form. Printed by a program of this session's, checked by the kernel. -/
import Derived.Test.YtkmojhkmekijoabVxN
import Derived.Test.YtkmojhkmekijoabProg
set_option linter.unusedVariables false
set_option maxRecDepth 100000
namespace Go.Vc
open Go.Vx Go
def as_.cx : Cx := ⟨[], [(3, [3, 8], [])], [], []⟩
def refApart.cx : Cx := ⟨[], [(3, [4, 5], [])], [], []⟩
def refMap.cx : Cx := ⟨[], [(3, [5], []), (7, [6], []), (12, [7], [])], [], []⟩
def refTo.cx : Cx := ⟨[], [(3, [5, 6], [])], [], []⟩
def apart.cx : Cx := ⟨[], [(3, [3, 8], [])], [], []⟩
def packed.cx : Cx := ⟨[1], [], [], []⟩
def packed1.cx : Cx := ⟨[], [(2, [3, 8], [])], [], []⟩
def moves.cx : Cx := ⟨[3, 4], [], [], [(12, [47, 3])]⟩
def alive23.cx : Cx := ⟨[], [], [], []⟩

theorem as_.vc (a1 : Option Addr) (k2 : Nat) (k3 : Nat) (H : PHeap) (Q : Value → PHeap → Prop)
    (h : ∃ (R4 : Rl) (M5 : Mu),
  R4 [Value.slice none 0 0, Value.int IntKind.i64 0] H ∧
    ∀ (a6 : Option Addr) (k7 k8 : Nat) (n9 : Int) (H10 : PHeap),
      R4 [Value.slice a6 k7 k8, Value.int IntKind.i64 n9] H10 →
        (decide (n9 < (↑k2 : Int)) = true →
        Ob (a1 ≠ none ∧ 0 ≤ n9 ∧ n9 < (↑k2 : Int)) ∧
        ∃ n11 n12,
        Reads H10 (elemA a1 n9 2) [Value.int IntKind.i64 n11, Value.int IntKind.i64 n12] ∧
        ∀ (k13 : Nat),
        H10 k13 = none →
        EvV Proofs.Try.prog (Builtin.append_ #[36, 36] 36 #[Value.slice a6 k7 k8, Value.slice (at0 k13) 1 1])
        (H10.upd k13 (Obj.cells #[Value.int IntKind.i64 n11, Value.int IntKind.i64 n12] 47)) fun v14 H15 =>
        ∃ a16 k17 k18,
        v14 = Value.slice a16 k17 k18 ∧
        R4 [Value.slice a16 k17 k18, Value.int IntKind.i64 (IntKind.i64.wrap (n9 + 1))] H15 ∧
        Less (M5 [Value.slice a16 k17 k18, Value.int IntKind.i64 (IntKind.i64.wrap (n9 + 1))] H15) (M5 [Value.slice a6 k7 k8, Value.int IntKind.i64 n9] H10)) ∧
        (decide (n9 < (↑k2 : Int)) = false → Q (Value.slice a6 k7 k8) H10)) :
    Triple Go.Proofs.Try.prog 14 ([Value.slice a1 k2 k3]).toArray H Q :=
  Triple.of_vc as_.cx (by kernel_rfl) h

theorem refApart.vc (a1 : Option Addr) (k2 : Nat) (k3 : Nat) (H : PHeap) (Q : Value → PHeap → Prop)
    (h : Triple Proofs.Try.prog 21 #[Value.slice a1 k2 k3] H fun v4 H5 =>
  ∃ a6 k7 k8 b9,
    v4 = Value.tuple #[Value.slice a6 k7 k8, Value.bool b9] ∧
      ∃ (R10 : Rl) (M11 : Mu),
        R10 [Value.bool b9, Value.int IntKind.i64 1] H5 ∧
        ∀ (b12 : Bool) (n13 : Int) (H14 : PHeap),
        R10 [Value.bool b12, Value.int IntKind.i64 n13] H14 →
        (decide (n13 < (↑k2 : Int)) = true →
        ∃ H15,
        Vx.Sub H15 H14 ∧
        (b12 = true →
        Ob (a1 ≠ none ∧ 0 ≤ IntKind.i64.wrap (n13 - 1) ∧ IntKind.i64.wrap (n13 - 1) < (↑k2 : Int)) ∧
        Ob (elemA a1 (IntKind.i64.wrap (n13 - 1)) 2 ≠ none) ∧
        ∃ n16,
        Reads H15 (fldA (elemA a1 (IntKind.i64.wrap (n13 - 1)) 2) 0) [Value.int IntKind.i64 n16] ∧
        Ob (a1 ≠ none ∧ 0 ≤ n13 ∧ n13 < (↑k2 : Int)) ∧
        Ob (elemA a1 n13 2 ≠ none) ∧
        ∃ n17,
        Reads H15 (fldA (elemA a1 n13 2) 0) [Value.int IntKind.i64 n17] ∧
        R10 [Value.bool (decide (n16 < n17)), Value.int IntKind.i64 (IntKind.i64.wrap (n13 + 1))] H14 ∧
        Less (M11 [Value.bool (decide (n16 < n17)), Value.int IntKind.i64 (IntKind.i64.wrap (n13 + 1))] H14)
        (M11 [Value.bool b12, Value.int IntKind.i64 n13] H14)) ∧
        (b12 = !true →
        R10 [Value.bool false, Value.int IntKind.i64 (IntKind.i64.wrap (n13 + 1))] H14 ∧
        Less (M11 [Value.bool false, Value.int IntKind.i64 (IntKind.i64.wrap (n13 + 1))] H14) (M11 [Value.bool b12, Value.int IntKind.i64 n13] H14))) ∧
        (decide (n13 < (↑k2 : Int)) = false → Q (Value.bool b12) H14)) :
    Triple Go.Proofs.Try.prog 12 ([Value.slice a1 k2 k3]).toArray H Q :=
  Triple.of_vc refApart.cx (by kernel_rfl) h

theorem refMap.vc (a1 : Option Addr) (k2 : Nat) (k3 : Nat) (H : PHeap) (Q : Value → PHeap → Prop)
    (h : EvV Proofs.Try.prog (Instr.makeSlice 24 (Value.int IntKind.i64 256) (Value.int IntKind.i64 256)) H fun v4 H5 =>
  ∃ a6 k7 k8,
    v4 = Value.slice a6 k7 k8 ∧
      ∃ (R9 : Rl) (M10 : Mu),
        R9 [Value.int IntKind.i64 0] H5 ∧
        ∀ (n11 : Int) (H12 : PHeap),
        R9 [Value.int IntKind.i64 n11] H12 →
        (decide (n11 < 256) = true →
        Ob (a6 ≠ none ∧ 0 ≤ n11 ∧ n11 < (↑k7 : Int)) ∧
        ∃ H13,
        Writes H12 H13 (elemA a6 n11 1) [Value.int IntKind.i64 (-1)] ∧
        R9 [Value.int IntKind.i64 (IntKind.i64.wrap (n11 + 1))] H13 ∧ Less (M10 [Value.int IntKind.i64 (IntKind.i64.wrap (n11 + 1))] H13) (M10 [Value.int IntKind.i64 n11] H12)) ∧
        (decide (n11 < 256) = false →
        ∃ (R14 : Rl) (M15 : Mu),
        R14 [Value.int IntKind.i64 0] H12 ∧
        ∀ (n16 : Int) (H17 : PHeap),
        R14 [Value.int IntKind.i64 n16] H17 →
        (decide (n16 < (↑k2 : Int)) = true →
        ∃ H18,
        Vx.Sub H18 H17 ∧
        Ob (a1 ≠ none ∧ 0 ≤ n16 ∧ n16 < (↑k2 : Int)) ∧
        Ob (elemA a1 n16 2 ≠ none) ∧
        ∃ n19,
        Reads H18 (fldA (elemA a1 n16 2) 0) [Value.int IntKind.i64 n19] ∧
        (decide (n19 < 0) = false →
        Ob (a1 ≠ none ∧ 0 ≤ n16 ∧ n16 < (↑k2 : Int)) ∧
        Ob (elemA a1 n16 2 ≠ none) ∧
        ∃ n20,
        Reads H18 (fldA (elemA a1 n16 2) 0) [Value.int IntKind.i64 n20] ∧
        (decide (n20 > 255) = false →
        Ob (a1 ≠ none ∧ 0 ≤ n16 ∧ n16 < (↑k2 : Int)) ∧
        Ob (elemA a1 n16 2 ≠ none) ∧
        ∃ n21,
        Reads H18 (fldA (elemA a1 n16 2) 1) [Value.int IntKind.i64 n21] ∧
        (decide (n21 < 1) = false →
        Ob (a1 ≠ none ∧ 0 ≤ n16 ∧ n16 < (↑k2 : Int)) ∧
        Ob (elemA a1 n16 2 ≠ none) ∧
        ∃ n22,
        Reads H18 (fldA (elemA a1 n16 2) 1) [Value.int IntKind.i64 n22] ∧
        Ob (a1 ≠ none ∧ 0 ≤ n16 ∧ n16 < (↑k2 : Int)) ∧
        Ob (elemA a1 n16 2 ≠ none) ∧
        ∃ n23,
        Reads H18 (fldA (elemA a1 n16 2) 0) [Value.int IntKind.i64 n23] ∧
        (decide (n22 > IntKind.i64.wrap (256 - n23)) = true →
        Q (Value.tuple #[Value.slice a6 k7 k8, Value.bool false]) H17) ∧
        (decide (n22 > IntKind.i64.wrap (256 - n23)) = false →
        Ob (a1 ≠ none ∧ 0 ≤ n16 ∧ n16 < (↑k2 : Int)) ∧
        Ob (elemA a1 n16 2 ≠ none) ∧
        ∃ n24,
        Reads H17 (fldA (elemA a1 n16 2) 0) [Value.int IntKind.i64 n24] ∧
        ∃ (R25 : Rl) (M26 : Mu),
        R25 [Value.int IntKind.i64 n24] H17 ∧
        ∀ (n27 : Int) (H28 : PHeap),
        R25 [Value.int IntKind.i64 n27] H28 →
        ∃ H29,
        Vx.Sub H29 H28 ∧
        Ob (a1 ≠ none ∧ 0 ≤ n16 ∧ n16 < (↑k2 : Int)) ∧
        Ob (elemA a1 n16 2 ≠ none) ∧
        ∃ n30,
        Reads H29 (fldA (elemA a1 n16 2) 0) [Value.int IntKind.i64 n30] ∧
        Ob (a1 ≠ none ∧ 0 ≤ n16 ∧ n16 < (↑k2 : Int)) ∧
        Ob (elemA a1 n16 2 ≠ none) ∧
        ∃ n31,
        Reads H29 (fldA (elemA a1 n16 2) 1) [Value.int IntKind.i64 n31] ∧
        (decide (n27 < IntKind.i64.wrap (n30 + n31)) = true →
        Ob (a6 ≠ none ∧ 0 ≤ n27 ∧ n27 < (↑k7 : Int)) ∧
        ∃ n32,
        Reads H28 (elemA a6 n27 1) [Value.int IntKind.i64 n32] ∧
        (decide (n32 ≥ 0) = true →
        Q (Value.tuple #[Value.slice a6 k7 k8, Value.bool false])
        H28) ∧
        (decide (n32 ≥ 0) = false →
        Ob (a6 ≠ none ∧ 0 ≤ n27 ∧ n27 < (↑k7 : Int)) ∧
        ∃ H33,
        Writes H28 H33 (elemA a6 n27 1)
        [Value.int IntKind.i64 n16] ∧
        R25
        [Value.int IntKind.i64
        (IntKind.i64.wrap (n27 + 1))]
        H33 ∧
        Less
        (M26
        [Value.int IntKind.i64
        (IntKind.i64.wrap (n27 + 1))]
        H33)
        (M26 [Value.int IntKind.i64 n27] H28))) ∧
        (decide (n27 < IntKind.i64.wrap (n30 + n31)) = false →
        R14 [Value.int IntKind.i64 (IntKind.i64.wrap (n16 + 1))] H28 ∧
        Less (M15 [Value.int IntKind.i64 (IntKind.i64.wrap (n16 + 1))] H28)
        (M15 [Value.int IntKind.i64 n16] H17)))) ∧
        (decide (n21 < 1) = !false → Q (Value.tuple #[Value.slice a6 k7 k8, Value.bool false]) H17)) ∧
        (decide (n20 > 255) = !false → Q (Value.tuple #[Value.slice a6 k7 k8, Value.bool false]) H17)) ∧
        (decide (n19 < 0) = !false → Q (Value.tuple #[Value.slice a6 k7 k8, Value.bool false]) H17)) ∧
        (decide (n16 < (↑k2 : Int)) = false → Q (Value.tuple #[Value.slice a6 k7 k8, Value.bool true]) H17))) :
    Triple Go.Proofs.Try.prog 21 ([Value.slice a1 k2 k3]).toArray H Q :=
  Triple.of_vc refMap.cx (by kernel_rfl) h

theorem refTo.vc (a1 : Option Addr) (k2 : Nat) (k3 : Nat) (n4 : Int) (H : PHeap) (Q : Value → PHeap → Prop)
    (h : ∃ (R5 : Rl) (M6 : Mu),
  R5 [Value.int IntKind.i64 0, Value.int IntKind.i64 0] H ∧
    ∀ (n7 n8 : Int) (H9 : PHeap),
      R5 [Value.int IntKind.i64 n7, Value.int IntKind.i64 n8] H9 →
        (decide (n8 < n4) = true →
        Ob (a1 ≠ none ∧ 0 ≤ n8 ∧ n8 < (↑k2 : Int)) ∧
        Ob (elemA a1 n8 2 ≠ none) ∧
        ∃ n10,
        Reads H9 (fldA (elemA a1 n8 2) 1) [Value.int IntKind.i64 n10] ∧
        R5 [Value.int IntKind.i64 (IntKind.i64.wrap (n7 + n10)), Value.int IntKind.i64 (IntKind.i64.wrap (n8 + 1))] H9 ∧
        Less (M6 [Value.int IntKind.i64 (IntKind.i64.wrap (n7 + n10)), Value.int IntKind.i64 (IntKind.i64.wrap (n8 + 1))] H9)
        (M6 [Value.int IntKind.i64 n7, Value.int IntKind.i64 n8] H9)) ∧
        (decide (n8 < n4) = false → Q (Value.int IntKind.i64 n7) H9)) :
    Triple Go.Proofs.Try.prog 17 ([Value.slice a1 k2 k3, Value.int IntKind.i64 n4]).toArray H Q :=
  Triple.of_vc refTo.cx (by kernel_rfl) h

theorem apart.vc (a1 : Option Addr) (k2 : Nat) (k3 : Nat) (H : PHeap) (Q : Value → PHeap → Prop)
    (h : ∃ (R4 : Rl) (M5 : Mu),
  R4 [Value.int IntKind.i64 0, Value.int IntKind.i64 0] H ∧
    ∀ (n6 n7 : Int) (H8 : PHeap),
      R4 [Value.int IntKind.i64 n6, Value.int IntKind.i64 n7] H8 →
        (decide (n7 < (↑k2 : Int)) = true →
        Ob (a1 ≠ none ∧ 0 ≤ n7 ∧ n7 < (↑k2 : Int)) ∧
        ∃ n9 n10,
        Reads H8 (elemA a1 n7 2) [Value.int IntKind.i64 n9, Value.int IntKind.i64 n10] ∧
        ((bif decide (n9 < n6) then true else bif decide (n10 < 1) then true else bif decide (n9 ≥ 256) then true else decide (n10 > IntKind.i64.wrap (256 - n9))) = true →
        Q (Value.bool false) H8) ∧
        ((bif decide (n9 < n6) then true else bif decide (n10 < 1) then true else bif decide (n9 ≥ 256) then true else decide (n10 > IntKind.i64.wrap (256 - n9))) = false →
        R4 [Value.int IntKind.i64 (IntKind.i64.wrap (n9 + n10)), Value.int IntKind.i64 (IntKind.i64.wrap (n7 + 1))] H8 ∧
        Less (M5 [Value.int IntKind.i64 (IntKind.i64.wrap (n9 + n10)), Value.int IntKind.i64 (IntKind.i64.wrap (n7 + 1))] H8)
        (M5 [Value.int IntKind.i64 n6, Value.int IntKind.i64 n7] H8))) ∧
        (decide (n7 < (↑k2 : Int)) = false → Q (Value.bool true) H8)) :
    Triple Go.Proofs.Try.prog 13 ([Value.slice a1 k2 k3]).toArray H Q :=
  Triple.of_vc apart.cx (by kernel_rfl) h

theorem packed.vc (a1 : Option Addr) (k2 : Nat) (k3 : Nat) (H : PHeap) (Q : Value → PHeap → Prop)
    (h : ∀ (k4 : Nat), H k4 = none → Q (Value.func (Fn.func 24) #[] #[Value.pointer (at0 k4)]) (H.upd k4 (Obj.cells #[Value.slice a1 k2 k3] 36))) :
    Triple Go.Proofs.Try.prog 22 ([Value.slice a1 k2 k3]).toArray H Q :=
  Triple.of_vc packed.cx (by kernel_rfl) h

theorem packed1.vc (v1 : Value) (a2 : Option Addr) (H : PHeap) (Q : Value → PHeap → Prop)
    (h : ∃ a3 k4 k5,
  Reads H a2 [Value.slice a3 k4 k5] ∧
    ∃ (R6 : Rl) (M7 : Mu),
      R6 [Value.int IntKind.i64 0, Value.int IntKind.i64 0] H ∧
        ∀ (n8 n9 : Int) (H10 : PHeap),
        R6 [Value.int IntKind.i64 n8, Value.int IntKind.i64 n9] H10 →
        (decide (n9 < (↑k4 : Int)) = true →
        Ob (a3 ≠ none ∧ 0 ≤ n9 ∧ n9 < (↑k4 : Int)) ∧
        ∃ n11 n12,
        Reads H10 (elemA a3 n9 2) [Value.int IntKind.i64 n11, Value.int IntKind.i64 n12] ∧
        CallY Proofs.Try.prog v1 #[Value.agg #[Value.int IntKind.i64 n11, Value.int IntKind.i64 n12], Value.int IntKind.i64 n8] H10 fun v13 H14 =>
        ∃ b15,
        v13 = Value.bool b15 ∧
        ((!b15) = true → Q (Value.tuple #[]) H14) ∧
        ((!b15) = false →
        R6 [Value.int IntKind.i64 (IntKind.i64.wrap (n8 + n12)), Value.int IntKind.i64 (IntKind.i64.wrap (n9 + 1))] H14 ∧
        Less (M7 [Value.int IntKind.i64 (IntKind.i64.wrap (n8 + n12)), Value.int IntKind.i64 (IntKind.i64.wrap (n9 + 1))] H14)
        (M7 [Value.int IntKind.i64 n8, Value.int IntKind.i64 n9] H10))) ∧
        (decide (n9 < (↑k4 : Int)) = false → Q (Value.tuple #[]) H10)) :
    Triple Go.Proofs.Try.prog 24 ([v1, Value.pointer a2]).toArray H Q :=
  Triple.of_vc packed1.cx (by kernel_rfl) h

theorem moves.vc (a1 : Option Addr) (k2 : Nat) (k3 : Nat) (H : PHeap) (Q : Value → PHeap → Prop)
    (h : ∀ (k4 : Nat),
  H k4 = none →
    Triple Proofs.Try.prog 13 #[Value.slice a1 k2 k3] (H.upd k4 (Obj.cells #[Value.slice none 0 0] 38)) fun v5 H6 =>
      ∃ b7,
        v5 = Value.bool b7 ∧
        ((!b7) = true → ∃ a8 k9 k10, Reads H6 (at0 k4) [Value.slice a8 k9 k10] ∧ Q (Value.slice a8 k9 k10) H6) ∧
        ((!b7) = false →
        Triple Proofs.Try.prog 22 #[Value.slice a1 k2 k3] H6 fun v11 H12 =>
        ∃ v13,
        v11 = v13 ∧
        ∃ (x14 : _) (J15 : (Nat → PHeap → Prop)) (J16 : (Nat → PHeap → Prop)) (H17 : _),
        Vx.Sub H17 H12 ∧
        IterOk Proofs.Try.prog v13 H17 x14 ∧
        FitAll [Value.agg #[Value.int IntKind.i64 0, Value.int IntKind.i64 0], Value.int IntKind.i64 0] x14 ∧
        (∀ (k18 : Nat) (H19 : PHeap), J15 k18 H19 → Vx.Sub H17 H19) ∧
        J15 0 H12 ∧
        (∀ (n20 n21 n22 : Int) (k23 : Nat) (H24 : PHeap),
        Nth x14 k23 [Value.agg #[Value.int IntKind.i64 n20, Value.int IntKind.i64 n21], Value.int IntKind.i64 n22] →
        J15 k23 H24 →
        ∀ (k25 : Nat),
        H24 k25 = none →
        ∃ H26,
        Writes (H24.upd k25 (Obj.cells #[Value.int IntKind.i64 0, Value.int IntKind.i64 0] 47)) H26 (at0 k25)
        [Value.int IntKind.i64 n20, Value.int IntKind.i64 n21] ∧
        Ob (at0 k25 ≠ none) ∧
        ∃ n27,
        Reads H26 (fldA (at0 k25) 0) [Value.int IntKind.i64 n27] ∧
        ((n27 != n22) = true →
        ∃ a28 k29 k30,
        Reads H26 (at0 k4) [Value.slice a28 k29 k30] ∧
        Ob (at0 k25 ≠ none) ∧
        ∃ n31,
        Reads H26 (fldA (at0 k25) 0) [Value.int IntKind.i64 n31] ∧
        Ob (at0 k25 ≠ none) ∧
        ∃ n32,
        Reads H26 (fldA (at0 k25) 1) [Value.int IntKind.i64 n32] ∧
        ∀ (k33 : Nat),
        H26 k33 = none →
        EvV Proofs.Try.prog
        (Builtin.append_ #[38, 38] 38 #[Value.slice a28 k29 k30, Value.slice (at0 k33) 1 1])
        (H26.upd k33 (Obj.cells #[Value.int IntKind.i64 n31, Value.int IntKind.i64 n22, Value.int IntKind.i64 n32] 45))
        fun v34 H35 =>
        ∃ a36 k37 k38,
        v34 = Value.slice a36 k37 k38 ∧
        ∃ H39, Writes H35 H39 (at0 k4) [Value.slice a36 k37 k38] ∧ J15 (k23 + 1) H39) ∧
        ((n27 != n22) = false → J15 (k23 + 1) H26)) ∧
        (∀ (H40 : PHeap), J15 x14.length H40 → ∃ a41 k42 k43, Reads H40 (at0 k4) [Value.slice a41 k42 k43] ∧ Q (Value.slice a41 k42 k43) H40) ∧
        True ∧ True)) :
    Triple Go.Proofs.Try.prog 15 ([Value.slice a1 k2 k3]).toArray H Q :=
  Triple.of_vc moves.cx (by kernel_rfl) h

theorem alive23.vc (H : PHeap) (Q : Value → PHeap → Prop)
    (h : ∀ (k1 : Nat),
  H k1 = none →
    Triple Proofs.Try.prog 15 #[Value.slice (at0 k1) 2 2]
      (H.upd k1 (Obj.cells #[Value.int IntKind.i64 1, Value.int IntKind.i64 2, Value.int IntKind.i64 5, Value.int IntKind.i64 1] 47)) fun v2 H3 =>
      ∃ a4 k5 k6,
        v2 = Value.slice a4 k5 k6 ∧
        (((↑k5 : Int) == 2) = true →
        Ob (a4 ≠ none ∧ (0 : Int) ≤ 0 ∧ 0 < (↑k5 : Int)) ∧
        ∃ n7 n8 n9,
        Reads H3 (elemA a4 0 3) [Value.int IntKind.i64 n7, Value.int IntKind.i64 n8, Value.int IntKind.i64 n9] ∧
        ((n7 == 1 && (n8 == 0 && n9 == 2)) = true →
        Ob (a4 ≠ none ∧ (0 : Int) ≤ 1 ∧ 1 < (↑k5 : Int)) ∧
        ∃ n10 n11 n12,
        Reads H3 (elemA a4 1 3) [Value.int IntKind.i64 n10, Value.int IntKind.i64 n11, Value.int IntKind.i64 n12] ∧ Q (Value.bool (n10 == 5 && (n11 == 2 && n12 == 1))) H3) ∧
        ((n7 == 1 && (n8 == 0 && n9 == 2)) = !true → Q (Value.bool false) H3)) ∧
        (((↑k5 : Int) == 2) = !true → Q (Value.bool false) H3)) :
    Triple Go.Proofs.Try.prog 11 ([]).toArray H Q :=
  Triple.of_vc alive23.cx (by kernel_rfl) h

end Go.Vc
