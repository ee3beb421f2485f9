/- What is to be shown of each function, in its normal form. Printed by a program of this session's, checked by the kernel. -/
import Derived.Test.YtkmojhkmekijoabVxN
import Derived.Test.YtkmojhkmekijoabProg
set_option linter.unusedVariables false
set_option maxRecDepth 100000
namespace Go.Vc
open Go.Vx Go
def gaps.cx : Cx := ⟨[3, 5, 6], [(7, [25], [])], [], []⟩
def gaps1.cx : Cx := ⟨[], [], [], []⟩
def refGaps.cx : Cx := ⟨[], [(4, [5, 8], [])], [], []⟩
def lawMoves.cx : Cx := ⟨[], [(11, [8, 45], []), (25, [99], [])], [], []⟩

theorem gaps.vc (a1 : Option Addr) (k2 : Nat) (k3 : Nat) (n4 : Int) (H : PHeap) (Q : Value → PHeap → Prop)
    (h : ∀ (k5 : Nat),
  H k5 = none →
    ∀ (k6 : Nat),
      H.upd k5 (Obj.cells #[Value.int IntKind.i64 n4] 3) k6 = none →
        Triple Proofs.Try.prog 13 #[Value.slice a1 k2 k3] ((H.upd k5 (Obj.cells #[Value.int IntKind.i64 n4] 3)).upd k6 (Obj.cells #[Value.slice none 0 0] 36)) fun v7 H8 =>
        ∃ b9,
        v7 = Value.bool b9 ∧
        ((!b9) = false →
        ∃ n10,
        Reads H8 (at0 k5) [Value.int IntKind.i64 n10] ∧
        (decide (n10 < 1) = false →
        ∃ n11,
        Reads H8 (at0 k5) [Value.int IntKind.i64 n11] ∧
        (decide (n11 > 256) = true → ∃ a12 k13 k14, Reads H8 (at0 k6) [Value.slice a12 k13 k14] ∧ Q (Value.slice a12 k13 k14) H8) ∧
        (decide (n11 > 256) = false →
        ∀ (k15 : Nat),
        H8 k15 = none →
        ∃ H16,
        Writes (H8.upd k15 (Obj.cells #[Value.int IntKind.i64 0] 3)) H16 (at0 k15) [Value.int IntKind.i64 0] ∧
        ∃ (R17 : Rl) (M18 : Mu),
        R17 [Value.int IntKind.i64 0] H16 ∧
        ∀ (n19 : Int) (H20 : PHeap),
        R17 [Value.int IntKind.i64 n19] H20 →
        (decide (n19 < (↑k2 : Int)) = true →
        Ob (a1 ≠ none ∧ 0 ≤ n19 ∧ n19 < (↑k2 : Int)) ∧
        ∃ n21 n22,
        Reads H20 (elemA a1 n19 2) [Value.int IntKind.i64 n21, Value.int IntKind.i64 n22] ∧
        Triple Proofs.Try.prog 23
        #[Value.int IntKind.i64 n21, Value.pointer (at0 k5), Value.pointer (at0 k15),
        Value.pointer (at0 k6)]
        H20 fun v23 H24 =>
        v23 = Value.tuple #[] ∧
        ∃ H25,
        Writes H24 H25 (at0 k15) [Value.int IntKind.i64 (IntKind.i64.wrap (n21 + n22))] ∧
        R17 [Value.int IntKind.i64 (IntKind.i64.wrap (n19 + 1))] H25 ∧
        Less (M18 [Value.int IntKind.i64 (IntKind.i64.wrap (n19 + 1))] H25) (M18 [Value.int IntKind.i64 n19] H20)) ∧
        (decide (n19 < (↑k2 : Int)) = false →
        ∃ n26,
        Reads H20 (at0 k5) [Value.int IntKind.i64 n26] ∧
        Triple Proofs.Try.prog 23
        #[Value.int IntKind.i64 n26, Value.pointer (at0 k5), Value.pointer (at0 k15),
        Value.pointer (at0 k6)]
        H20 fun v27 H28 =>
        v27 = Value.tuple #[] ∧
        ∃ a29 k30 k31, Reads H28 (at0 k6) [Value.slice a29 k30 k31] ∧ Q (Value.slice a29 k30 k31) H28))) ∧
        (decide (n10 < 1) = !false → ∃ a32 k33 k34, Reads H8 (at0 k6) [Value.slice a32 k33 k34] ∧ Q (Value.slice a32 k33 k34) H8)) ∧
        ((!b9) = !false → ∃ a35 k36 k37, Reads H8 (at0 k6) [Value.slice a35 k36 k37] ∧ Q (Value.slice a35 k36 k37) H8)) :
    Triple Go.Proofs.Try.prog 16 ([Value.slice a1 k2 k3, Value.int IntKind.i64 n4]).toArray H Q :=
  Triple.of_vc gaps.cx (by kernel_rfl) h

theorem gaps1.vc (n1 : Int) (a2 : Option Addr) (a3 : Option Addr) (a4 : Option Addr) (H : PHeap) (Q : Value → PHeap → Prop)
    (h : ∃ n5,
  Reads H a2 [Value.int IntKind.i64 n5] ∧
    ∃ n6,
      Reads H a3 [Value.int IntKind.i64 n6] ∧
        (decide (minI n1 n5 > n6) = true →
        ∃ a7 k8 k9,
        Reads H a4 [Value.slice a7 k8 k9] ∧
        ∃ n10,
        Reads H a3 [Value.int IntKind.i64 n10] ∧
        ∃ n11,
        Reads H a3 [Value.int IntKind.i64 n11] ∧
        ∀ (k12 : Nat),
        H k12 = none →
        EvV Proofs.Try.prog (Builtin.append_ #[36, 36] 36 #[Value.slice a7 k8 k9, Value.slice (at0 k12) 1 1])
        (H.upd k12 (Obj.cells #[Value.int IntKind.i64 n10, Value.int IntKind.i64 (IntKind.i64.wrap (minI n1 n5 - n11))] 47)) fun v13 H14 =>
        ∃ a15 k16 k17, v13 = Value.slice a15 k16 k17 ∧ ∃ H18, Writes H14 H18 a4 [Value.slice a15 k16 k17] ∧ Q (Value.tuple #[]) H18) ∧
        (decide (minI n1 n5 > n6) = false → Q (Value.tuple #[]) H)) :
    Triple Go.Proofs.Try.prog 23 ([Value.int IntKind.i64 n1, Value.pointer a2, Value.pointer a3, Value.pointer a4]).toArray H Q :=
  Triple.of_vc gaps1.cx (by kernel_rfl) h

theorem refGaps.vc (a1 : Option Addr) (k2 : Nat) (k3 : Nat) (n4 : Int) (H : PHeap) (Q : Value → PHeap → Prop)
    (h : Triple Proofs.Try.prog 21 #[Value.slice a1 k2 k3] H fun v5 H6 =>
  ∃ a7 k8 k9 b10,
    v5 = Value.tuple #[Value.slice a7 k8 k9, Value.bool b10] ∧
      ∃ (R11 : Rl) (M12 : Mu),
        R11 [Value.slice none 0 0, Value.int IntKind.i64 0] H6 ∧
        ∀ (a13 : Option Addr) (k14 k15 : Nat) (n16 : Int) (H17 : PHeap),
        R11 [Value.slice a13 k14 k15, Value.int IntKind.i64 n16] H17 →
        (decide (n16 < n4) = true →
        Ob (a7 ≠ none ∧ 0 ≤ n16 ∧ n16 < (↑k8 : Int)) ∧
        ∃ n18,
        Reads H17 (elemA a7 n16 1) [Value.int IntKind.i64 n18] ∧
        (decide (n18 ≥ 0) = true →
        R11 [Value.slice a13 k14 k15, Value.int IntKind.i64 (IntKind.i64.wrap (n16 + 1))] H17 ∧
        Less (M12 [Value.slice a13 k14 k15, Value.int IntKind.i64 (IntKind.i64.wrap (n16 + 1))] H17) (M12 [Value.slice a13 k14 k15, Value.int IntKind.i64 n16] H17)) ∧
        (decide (n18 ≥ 0) = false →
        ∃ H19,
        Vx.Sub H19 H17 ∧
        (decide (IntKind.i64.wrap ((↑k14 : Int) - 1) ≥ 0) = true →
        Ob (a13 ≠ none ∧ 0 ≤ IntKind.i64.wrap ((↑k14 : Int) - 1) ∧ IntKind.i64.wrap ((↑k14 : Int) - 1) < (↑k14 : Int)) ∧
        Ob (elemA a13 (IntKind.i64.wrap ((↑k14 : Int) - 1)) 2 ≠ none) ∧
        ∃ n20,
        Reads H19 (fldA (elemA a13 (IntKind.i64.wrap ((↑k14 : Int) - 1)) 2) 0) [Value.int IntKind.i64 n20] ∧
        Ob (a13 ≠ none ∧ 0 ≤ IntKind.i64.wrap ((↑k14 : Int) - 1) ∧ IntKind.i64.wrap ((↑k14 : Int) - 1) < (↑k14 : Int)) ∧
        Ob (elemA a13 (IntKind.i64.wrap ((↑k14 : Int) - 1)) 2 ≠ none) ∧
        ∃ n21,
        Reads H19 (fldA (elemA a13 (IntKind.i64.wrap ((↑k14 : Int) - 1)) 2) 1) [Value.int IntKind.i64 n21] ∧
        ((IntKind.i64.wrap (n20 + n21) == n16) = true →
        ∃ H22,
        Vx.Sub H22 H17 ∧
        Ob (a13 ≠ none ∧ 0 ≤ IntKind.i64.wrap ((↑k14 : Int) - 1) ∧ IntKind.i64.wrap ((↑k14 : Int) - 1) < (↑k14 : Int)) ∧
        Ob (elemA a13 (IntKind.i64.wrap ((↑k14 : Int) - 1)) 2 ≠ none) ∧
        ∃ n23,
        Reads H22 (fldA (elemA a13 (IntKind.i64.wrap ((↑k14 : Int) - 1)) 2) 0) [Value.int IntKind.i64 n23] ∧
        Ob (a13 ≠ none ∧ 0 ≤ IntKind.i64.wrap ((↑k14 : Int) - 1) ∧ IntKind.i64.wrap ((↑k14 : Int) - 1) < (↑k14 : Int)) ∧
        Ob (elemA a13 (IntKind.i64.wrap ((↑k14 : Int) - 1)) 2 ≠ none) ∧
        ∃ n24,
        Reads H22 (fldA (elemA a13 (IntKind.i64.wrap ((↑k14 : Int) - 1)) 2) 1) [Value.int IntKind.i64 n24] ∧
        Ob (a13 ≠ none ∧ 0 ≤ IntKind.i64.wrap ((↑k14 : Int) - 1) ∧ IntKind.i64.wrap ((↑k14 : Int) - 1) < (↑k14 : Int)) ∧
        ∃ H25,
        Writes H17 H25 (elemA a13 (IntKind.i64.wrap ((↑k14 : Int) - 1)) 2)
        [Value.int IntKind.i64 n23, Value.int IntKind.i64 (IntKind.i64.wrap (n24 + 1))] ∧
        R11 [Value.slice a13 k14 k15, Value.int IntKind.i64 (IntKind.i64.wrap (n16 + 1))] H25 ∧
        Less (M12 [Value.slice a13 k14 k15, Value.int IntKind.i64 (IntKind.i64.wrap (n16 + 1))] H25)
        (M12 [Value.slice a13 k14 k15, Value.int IntKind.i64 n16] H17)) ∧
        ((IntKind.i64.wrap (n20 + n21) == n16) = false →
        ∀ (k26 : Nat),
        H17 k26 = none →
        EvV Proofs.Try.prog (Builtin.append_ #[33, 33] 33 #[Value.slice a13 k14 k15, Value.slice (at0 k26) 1 1])
        (H17.upd k26 (Obj.cells #[Value.int IntKind.i64 n16, Value.int IntKind.i64 1] 42)) fun v27 H28 =>
        ∃ a29 k30 k31,
        v27 = Value.slice a29 k30 k31 ∧
        R11 [Value.slice a29 k30 k31, Value.int IntKind.i64 (IntKind.i64.wrap (n16 + 1))] H28 ∧
        Less (M12 [Value.slice a29 k30 k31, Value.int IntKind.i64 (IntKind.i64.wrap (n16 + 1))] H28)
        (M12 [Value.slice a13 k14 k15, Value.int IntKind.i64 n16] H17))) ∧
        (decide (IntKind.i64.wrap ((↑k14 : Int) - 1) ≥ 0) = !true →
        ∀ (k32 : Nat),
        H17 k32 = none →
        EvV Proofs.Try.prog (Builtin.append_ #[33, 33] 33 #[Value.slice a13 k14 k15, Value.slice (at0 k32) 1 1])
        (H17.upd k32 (Obj.cells #[Value.int IntKind.i64 n16, Value.int IntKind.i64 1] 42)) fun v33 H34 =>
        ∃ a35 k36 k37,
        v33 = Value.slice a35 k36 k37 ∧
        R11 [Value.slice a35 k36 k37, Value.int IntKind.i64 (IntKind.i64.wrap (n16 + 1))] H34 ∧
        Less (M12 [Value.slice a35 k36 k37, Value.int IntKind.i64 (IntKind.i64.wrap (n16 + 1))] H34)
        (M12 [Value.slice a13 k14 k15, Value.int IntKind.i64 n16] H17)))) ∧
        (decide (n16 < n4) = false → Q (Value.slice a13 k14 k15) H17)) :
    Triple Go.Proofs.Try.prog 18 ([Value.slice a1 k2 k3, Value.int IntKind.i64 n4]).toArray H Q :=
  Triple.of_vc refGaps.cx (by kernel_rfl) h

theorem lawMoves.vc (a1 : Option Addr) (k2 : Nat) (k3 : Nat) (n4 : Int) (H : PHeap) (Q : Value → PHeap → Prop)
    (h : (decide ((↑k2 : Int) > 60) = true → Triple Proofs.Try.prog 11 #[] H fun v5 H6 => ∃ b7, v5 = Value.bool b7 ∧ Q (Value.bool b7) H6) ∧
  (decide ((↑k2 : Int) > 60) = false →
    Triple Proofs.Try.prog 12 #[Value.slice a1 k2 k3] H fun v8 H9 =>
      ∃ b10,
        v8 = Value.bool b10 ∧
        Triple Proofs.Try.prog 14 #[Value.slice a1 k2 k3] H9 fun v11 H12 =>
        ∃ a13 k14 k15,
        v11 = Value.slice a13 k14 k15 ∧
        Triple Proofs.Try.prog 13 #[Value.slice a13 k14 k15] H12 fun v16 H17 =>
        ∃ b18,
        v16 = Value.bool b18 ∧
        ((!b18 == b10) = true → Q (Value.bool false) H17) ∧
        ((!b18 == b10) = false →
        Triple Proofs.Try.prog 14 #[Value.slice a1 k2 k3] H17 fun v19 H20 =>
        ∃ a21 k22 k23,
        v19 = Value.slice a21 k22 k23 ∧
        Triple Proofs.Try.prog 15 #[Value.slice a21 k22 k23] H20 fun v24 H25 =>
        ∃ a26 k27 k28,
        v24 = Value.slice a26 k27 k28 ∧
        Triple Proofs.Try.prog 14 #[Value.slice a1 k2 k3] H25 fun v29 H30 =>
        ∃ a31 k32 k33,
        v29 = Value.slice a31 k32 k33 ∧
        Triple Proofs.Try.prog 16 #[Value.slice a31 k32 k33, Value.int IntKind.i64 n4] H30 fun v34 H35 =>
        ∃ a36 k37 k38,
        v34 = Value.slice a36 k37 k38 ∧
        ((!b10) = true →
        ((IntKind.i64.wrap ((↑k27 : Int) + (↑k37 : Int)) == 0) = true →
        Triple Proofs.Try.prog 11 #[] H35 fun v39 H40 => ∃ b41, v39 = Value.bool b41 ∧ Q (Value.bool b41) H40) ∧
        ((IntKind.i64.wrap ((↑k27 : Int) + (↑k37 : Int)) == 0) = !true → Q (Value.bool false) H35)) ∧
        ((!b10) = false →
        ∃ (R42 : Rl) (M43 : Mu),
        R42 [Value.int IntKind.i64 0, Value.int IntKind.i64 0] H35 ∧
        ∀ (n44 n45 : Int) (H46 : PHeap),
        R42 [Value.int IntKind.i64 n44, Value.int IntKind.i64 n45] H46 →
        (decide (n45 < (↑k2 : Int)) = true →
        Ob (a1 ≠ none ∧ 0 ≤ n45 ∧ n45 < (↑k2 : Int)) ∧
        ∃ n47 n48,
        Reads H46 (elemA a1 n45 2) [Value.int IntKind.i64 n47, Value.int IntKind.i64 n48] ∧
        Triple Proofs.Try.prog 17 #[Value.slice a1 k2 k3, Value.int IntKind.i64 n45] H46 fun v49 H50 =>
        ∃ n51,
        v49 = Value.int IntKind.i64 n51 ∧
        ((n51 != n47) = true →
        ∃ H52,
        Vx.Sub H52 H50 ∧
        (decide (n44 ≥ (↑k27 : Int)) = false →
        Ob (a26 ≠ none ∧ 0 ≤ n44 ∧ n44 < (↑k27 : Int)) ∧
        ∃ n53 n54 n55,
        Reads H52 (elemA a26 n44 3)
        [Value.int IntKind.i64 n53, Value.int IntKind.i64 n54, Value.int IntKind.i64 n55] ∧
        ((!(n53 == n47 && (n54 == n51 && n55 == n48))) = true → Q (Value.bool false) H50) ∧
        ((!(n53 == n47 && (n54 == n51 && n55 == n48))) = false →
        R42
        [Value.int IntKind.i64 (IntKind.i64.wrap (n44 + 1)),
        Value.int IntKind.i64 (IntKind.i64.wrap (n45 + 1))]
        H50 ∧
        Less
        (M43
        [Value.int IntKind.i64 (IntKind.i64.wrap (n44 + 1)),
        Value.int IntKind.i64 (IntKind.i64.wrap (n45 + 1))]
        H50)
        (M43 [Value.int IntKind.i64 n44, Value.int IntKind.i64 n45] H46))) ∧
        (decide (n44 ≥ (↑k27 : Int)) = !false → Q (Value.bool false) H50)) ∧
        ((n51 != n47) = false →
        R42 [Value.int IntKind.i64 n44, Value.int IntKind.i64 (IntKind.i64.wrap (n45 + 1))] H50 ∧
        Less (M43 [Value.int IntKind.i64 n44, Value.int IntKind.i64 (IntKind.i64.wrap (n45 + 1))] H50)
        (M43 [Value.int IntKind.i64 n44, Value.int IntKind.i64 n45] H46))) ∧
        (decide (n45 < (↑k2 : Int)) = false →
        ((bif decide (n4 ≥ 1) then decide (n4 ≤ 256) else false) = true →
        Triple Proofs.Try.prog 18 #[Value.slice a1 k2 k3, Value.int IntKind.i64 n4] H46 fun v56 H57 =>
        ∃ a58 k59 k60,
        v56 = Value.slice a58 k59 k60 ∧
        ((bif n44 != (↑k27 : Int) then true else (↑k37 : Int) != (↑k59 : Int)) = true → Q (Value.bool false) H57) ∧
        ((bif n44 != (↑k27 : Int) then true else (↑k37 : Int) != (↑k59 : Int)) = false →
        ∃ (R61 : Rl) (M62 : Mu),
        R61 [Value.int IntKind.i64 0] H57 ∧
        ∀ (n63 : Int) (H64 : PHeap),
        R61 [Value.int IntKind.i64 n63] H64 →
        (decide (n63 < (↑k37 : Int)) = true →
        ∃ H65,
        Vx.Sub H65 H64 ∧
        Ob (a36 ≠ none ∧ 0 ≤ n63 ∧ n63 < (↑k37 : Int)) ∧
        Ob (elemA a36 n63 2 ≠ none) ∧
        ∃ n66,
        Reads H65 (fldA (elemA a36 n63 2) 0) [Value.int IntKind.i64 n66] ∧
        Ob (a58 ≠ none ∧ 0 ≤ n63 ∧ n63 < (↑k59 : Int)) ∧
        Ob (elemA a58 n63 2 ≠ none) ∧
        ∃ n67,
        Reads H65 (fldA (elemA a58 n63 2) 0) [Value.int IntKind.i64 n67] ∧
        ((n66 != n67) = false →
        Ob (a36 ≠ none ∧ 0 ≤ n63 ∧ n63 < (↑k37 : Int)) ∧
        Ob (elemA a36 n63 2 ≠ none) ∧
        ∃ n68,
        Reads H65 (fldA (elemA a36 n63 2) 1) [Value.int IntKind.i64 n68] ∧
        Ob (a58 ≠ none ∧ 0 ≤ n63 ∧ n63 < (↑k59 : Int)) ∧
        Ob (elemA a58 n63 2 ≠ none) ∧
        ∃ n69,
        Reads H65 (fldA (elemA a58 n63 2) 1) [Value.int IntKind.i64 n69] ∧
        ((n68 != n69) = true → Q (Value.bool false) H64) ∧
        ((n68 != n69) = false →
        R61 [Value.int IntKind.i64 (IntKind.i64.wrap (n63 + 1))] H64 ∧
        Less
        (M62 [Value.int IntKind.i64 (IntKind.i64.wrap (n63 + 1))]
        H64)
        (M62 [Value.int IntKind.i64 n63] H64))) ∧
        ((n66 != n67) = !false → Q (Value.bool false) H64)) ∧
        (decide (n63 < (↑k37 : Int)) = false →
        Triple Proofs.Try.prog 11 #[] H64 fun v70 H71 => ∃ b72, v70 = Value.bool b72 ∧ Q (Value.bool b72) H71))) ∧
        ((bif decide (n4 ≥ 1) then decide (n4 ≤ 256) else false) = false →
        ((bif n44 != (↑k27 : Int) then true else (↑k37 : Int) != (↑0 : Int)) = true → Q (Value.bool false) H46) ∧
        ((bif n44 != (↑k27 : Int) then true else (↑k37 : Int) != (↑0 : Int)) = false →
        ∃ (R73 : Rl) (M74 : Mu),
        R73 [Value.int IntKind.i64 0] H46 ∧
        ∀ (n75 : Int) (H76 : PHeap),
        R73 [Value.int IntKind.i64 n75] H76 →
        (decide (n75 < (↑k37 : Int)) = true →
        ∃ H77,
        Vx.Sub H77 H76 ∧
        Ob (a36 ≠ none ∧ 0 ≤ n75 ∧ n75 < (↑k37 : Int)) ∧
        Ob (elemA a36 n75 2 ≠ none) ∧
        ∃ n78,
        Reads H77 (fldA (elemA a36 n75 2) 0) [Value.int IntKind.i64 n78] ∧
        Ob ((none : Option Addr) ≠ none ∧ 0 ≤ n75 ∧ n75 < (↑0 : Int)) ∧
        Ob (elemA none n75 2 ≠ none) ∧
        ∃ n79,
        Reads H77 (fldA (elemA none n75 2) 0) [Value.int IntKind.i64 n79] ∧
        ((n78 != n79) = false →
        Ob (a36 ≠ none ∧ 0 ≤ n75 ∧ n75 < (↑k37 : Int)) ∧
        Ob (elemA a36 n75 2 ≠ none) ∧
        ∃ n80,
        Reads H77 (fldA (elemA a36 n75 2) 1) [Value.int IntKind.i64 n80] ∧
        Ob ((none : Option Addr) ≠ none ∧ 0 ≤ n75 ∧ n75 < (↑0 : Int)) ∧
        Ob (elemA none n75 2 ≠ none) ∧
        ∃ n81,
        Reads H77 (fldA (elemA none n75 2) 1) [Value.int IntKind.i64 n81] ∧
        ((n80 != n81) = true → Q (Value.bool false) H76) ∧
        ((n80 != n81) = false →
        R73 [Value.int IntKind.i64 (IntKind.i64.wrap (n75 + 1))] H76 ∧
        Less (M74 [Value.int IntKind.i64 (IntKind.i64.wrap (n75 + 1))] H76)
        (M74 [Value.int IntKind.i64 n75] H76))) ∧
        ((n78 != n79) = !false → Q (Value.bool false) H76)) ∧
        (decide (n75 < (↑k37 : Int)) = false →
        Triple Proofs.Try.prog 11 #[] H76 fun v82 H83 => ∃ b84, v82 = Value.bool b84 ∧ Q (Value.bool b84) H83)))))))) :
    Triple Go.Proofs.Try.prog 4 ([Value.slice a1 k2 k3, Value.int IntKind.i64 n4]).toArray H Q :=
  Triple.of_vc lawMoves.cx (by kernel_rfl) h

end Go.Vc
