/- What is to be shown of each function, in its normal form. Printed by a program of this session's, checked by the kernel. -/
import Derived.Test.YtllbdocjgdnofaaVxN
import Derived.Test.YtllbdocjgdnofaaProg
set_option linter.unusedVariables false
set_option maxRecDepth 100000
namespace Go.Vc
open Go.Vx Go
def rest.cx : Cx := ⟨[12], [(3, [15], []), (9, [8], [])], [], []⟩
def some.cx : Cx := ⟨[], [], [], []⟩
def hPush.cx : Cx := ⟨[], [], [], []⟩
def hPop.cx : Cx := ⟨[], [], [], []⟩
def hUp.cx : Cx := ⟨[], [(0, [1], [])], [], []⟩
def hDown.cx : Cx := ⟨[], [(2, [7], [])], [], []⟩
def nLen.cx : Cx := ⟨[], [], [], []⟩
def nLess.cx : Cx := ⟨[], [], [], []⟩
def nPop.cx : Cx := ⟨[], [], [], []⟩
def nPush.cx : Cx := ⟨[], [], [], []⟩
def nSwap.cx : Cx := ⟨[], [], [], []⟩
def refRest.cx : Cx := ⟨[], [(3, [5, 6], []), (7, [7], [])], [], []⟩
def refHas.cx : Cx := ⟨[], [(2, [5], [])], [], []⟩

theorem rest.vc (a1 : Option Addr) (k2 : Nat) (k3 : Nat) (a4 : Option Addr) (k5 : Nat) (k6 : Nat) (H : PHeap) (Q : Value → PHeap → Prop)
    (h : ∀ (k7 : Nat),
  H k7 = none →
    ∀ (k8 : Nat),
      H.upd k7 (Obj.cells #[] 3) k8 = none →
        ∃ (R9 : Rl) (M10 : Mu),
        R9 [Value.int IntKind.i64 0] ((H.upd k7 (Obj.cells #[] 3)).upd k8 (Obj.cells #[Value.slice (at0 k7) 0 0] 72)) ∧
        ∀ (n11 : Int) (H12 : PHeap),
        R9 [Value.int IntKind.i64 n11] H12 →
        (decide (n11 < (↑k2 : Int)) = true →
        Ob (a1 ≠ none ∧ 0 ≤ n11 ∧ n11 < (↑k2 : Int)) ∧
        ∃ n13,
        Reads H12 (elemA a1 n11 1) [Value.int IntKind.i64 n13] ∧
        Triple Proofs.Try.prog 43 #[Value.slice a4 k5 k6, Value.int IntKind.i64 n13] H12 fun v14 H15 =>
        ∃ b16,
        v14 = Value.bool b16 ∧
        ((!b16) = true →
        Triple Proofs.Try.prog 44 #[Value.iface 71 (Value.pointer (at0 k8)), Value.iface 3 (Value.int IntKind.i64 n13)] H15 fun v17 H18 =>
        v17 = Value.tuple #[] ∧
        R9 [Value.int IntKind.i64 (IntKind.i64.wrap (n11 + 1))] H18 ∧
        Less (M10 [Value.int IntKind.i64 (IntKind.i64.wrap (n11 + 1))] H18) (M10 [Value.int IntKind.i64 n11] H12)) ∧
        ((!b16) = false →
        R9 [Value.int IntKind.i64 (IntKind.i64.wrap (n11 + 1))] H15 ∧
        Less (M10 [Value.int IntKind.i64 (IntKind.i64.wrap (n11 + 1))] H15) (M10 [Value.int IntKind.i64 n11] H12))) ∧
        (decide (n11 < (↑k2 : Int)) = false →
        ∃ (R19 : Rl) (M20 : Mu),
        R19 [Value.slice none 0 0] H12 ∧
        ∀ (a21 : Option Addr) (k22 k23 : Nat) (H24 : PHeap),
        R19 [Value.slice a21 k22 k23] H24 →
        Triple Proofs.Try.prog 45 #[Value.iface 71 (Value.pointer (at0 k8))] H24 fun v25 H26 =>
        ∃ b27,
        v25 = Value.bool b27 ∧
        (b27 = true →
        Ob (at0 k8 ≠ none) ∧
        ∃ a28 k29 k30,
        Reads H26 (at0 k8) [Value.slice a28 k29 k30] ∧
        Ob (a28 ≠ none ∧ (0 : Int) ≤ 0 ∧ 0 < (↑k29 : Int)) ∧
        ∃ n31,
        Reads H26 (elemA a28 0 1) [Value.int IntKind.i64 n31] ∧
        Triple Proofs.Try.prog 46 #[Value.iface 71 (Value.pointer (at0 k8))] H26 fun v32 H33 =>
        ∃ v34,
        v32 = v34 ∧
        (((↑k22 : Int) == 0) = false →
        Ob (a21 ≠ none ∧ 0 ≤ IntKind.i64.wrap ((↑k22 : Int) - 1) ∧ IntKind.i64.wrap ((↑k22 : Int) - 1) < (↑k22 : Int)) ∧
        ∃ n35,
        Reads H33 (elemA a21 (IntKind.i64.wrap ((↑k22 : Int) - 1)) 1) [Value.int IntKind.i64 n35] ∧
        ((n35 != n31) = true →
        ∀ (k36 : Nat),
        H33 k36 = none →
        EvV Proofs.Try.prog
        (Builtin.append_ #[29, 29] 29 #[Value.slice a21 k22 k23, Value.slice (at0 k36) 1 1])
        (H33.upd k36 (Obj.cells #[Value.int IntKind.i64 n31] 3)) fun v37 H38 =>
        ∃ a39 k40 k41,
        v37 = Value.slice a39 k40 k41 ∧
        R19 [Value.slice a39 k40 k41] H38 ∧ Less (M20 [Value.slice a39 k40 k41] H38) (M20 [Value.slice a21 k22 k23] H24)) ∧
        ((n35 != n31) = false →
        R19 [Value.slice a21 k22 k23] H33 ∧ Less (M20 [Value.slice a21 k22 k23] H33) (M20 [Value.slice a21 k22 k23] H24))) ∧
        (((↑k22 : Int) == 0) = !false →
        ∀ (k42 : Nat),
        H33 k42 = none →
        EvV Proofs.Try.prog (Builtin.append_ #[29, 29] 29 #[Value.slice a21 k22 k23, Value.slice (at0 k42) 1 1])
        (H33.upd k42 (Obj.cells #[Value.int IntKind.i64 n31] 3)) fun v43 H44 =>
        ∃ a45 k46 k47,
        v43 = Value.slice a45 k46 k47 ∧
        R19 [Value.slice a45 k46 k47] H44 ∧ Less (M20 [Value.slice a45 k46 k47] H44) (M20 [Value.slice a21 k22 k23] H24))) ∧
        (b27 = false → Q (Value.slice a21 k22 k23) H26))) :
    Triple Go.Proofs.Try.prog 26 ([Value.slice a1 k2 k3, Value.slice a4 k5 k6]).toArray H Q :=
  Triple.of_vc rest.cx (by kernel_rfl) h

theorem some.vc (v1 : Value) (H : PHeap) (Q : Value → PHeap → Prop)
    (h : CallI Proofs.Try.prog v1 "Len" #[] H fun v2 H3 => ∃ n4, v2 = Value.int IntKind.i64 n4 ∧ Q (Value.bool (decide (n4 > 0))) H3) :
    Triple Go.Proofs.Try.prog 45 ([v1]).toArray H Q :=
  Triple.of_vc some.cx (by kernel_rfl) h

theorem hPush.vc (v1 : Value) (v2 : Value) (H : PHeap) (Q : Value → PHeap → Prop)
    (h : CallI Proofs.Try.prog v1 "Push" #[v2] H fun v3 H4 =>
  v3 = Value.tuple #[] ∧
    CallI Proofs.Try.prog v1 "Len" #[] H4 fun v5 H6 =>
      ∃ n7, v5 = Value.int IntKind.i64 n7 ∧ Triple Proofs.Try.prog 56 #[v1, Value.int IntKind.i64 (IntKind.i64.wrap (n7 - 1))] H6 fun v8 H9 => v8 = Value.tuple #[] ∧ Q (Value.tuple #[]) H9) :
    Triple Go.Proofs.Try.prog 44 ([v1, v2]).toArray H Q :=
  Triple.of_vc hPush.cx (by kernel_rfl) h

theorem hPop.vc (v1 : Value) (H : PHeap) (Q : Value → PHeap → Prop)
    (h : CallI Proofs.Try.prog v1 "Len" #[] H fun v2 H3 =>
  ∃ n4,
    v2 = Value.int IntKind.i64 n4 ∧
      CallI Proofs.Try.prog v1 "Swap" #[Value.int IntKind.i64 0, Value.int IntKind.i64 (IntKind.i64.wrap (n4 - 1))] H3 fun v5 H6 =>
        v5 = Value.tuple #[] ∧
        Triple Proofs.Try.prog 57 #[v1, Value.int IntKind.i64 0, Value.int IntKind.i64 (IntKind.i64.wrap (n4 - 1))] H6 fun v7 H8 =>
        ∃ b9, v7 = Value.bool b9 ∧ CallI Proofs.Try.prog v1 "Pop" #[] H8 fun v10 H11 => ∃ v12, v10 = v12 ∧ Q v12 H11) :
    Triple Go.Proofs.Try.prog 46 ([v1]).toArray H Q :=
  Triple.of_vc hPop.cx (by kernel_rfl) h

theorem hUp.vc (v1 : Value) (n2 : Int) (H : PHeap) (Q : Value → PHeap → Prop)
    (h : ∃ (R3 : Rl) (M4 : Mu),
  R3 [Value.int IntKind.i64 n2] H ∧
    ∀ (n5 : Int) (H6 : PHeap),
      R3 [Value.int IntKind.i64 n5] H6 →
        Ob ((2 : Int) ≠ 0) ∧
        ((IntKind.i64.wrap ((IntKind.i64.wrap (n5 - 1)).tdiv 2) == n5) = false →
        CallI Proofs.Try.prog v1 "Less" #[Value.int IntKind.i64 n5, Value.int IntKind.i64 (IntKind.i64.wrap ((IntKind.i64.wrap (n5 - 1)).tdiv 2))] H6 fun v7 H8 =>
        ∃ b9,
        v7 = Value.bool b9 ∧
        ((!b9) = true → Q (Value.tuple #[]) H8) ∧
        ((!b9) = false →
        CallI Proofs.Try.prog v1 "Swap" #[Value.int IntKind.i64 (IntKind.i64.wrap ((IntKind.i64.wrap (n5 - 1)).tdiv 2)), Value.int IntKind.i64 n5] H8 fun v10 H11 =>
        v10 = Value.tuple #[] ∧
        R3 [Value.int IntKind.i64 (IntKind.i64.wrap ((IntKind.i64.wrap (n5 - 1)).tdiv 2))] H11 ∧
        Less (M4 [Value.int IntKind.i64 (IntKind.i64.wrap ((IntKind.i64.wrap (n5 - 1)).tdiv 2))] H11) (M4 [Value.int IntKind.i64 n5] H6))) ∧
        ((IntKind.i64.wrap ((IntKind.i64.wrap (n5 - 1)).tdiv 2) == n5) = !false → Q (Value.tuple #[]) H6)) :
    Triple Go.Proofs.Try.prog 56 ([v1, Value.int IntKind.i64 n2]).toArray H Q :=
  Triple.of_vc hUp.cx (by kernel_rfl) h

theorem hDown.vc (v1 : Value) (n2 : Int) (n3 : Int) (H : PHeap) (Q : Value → PHeap → Prop)
    (h : ∃ (R4 : Rl) (M5 : Mu),
  R4 [Value.int IntKind.i64 n2] H ∧
    ∀ (n6 : Int) (H7 : PHeap),
      R4 [Value.int IntKind.i64 n6] H7 →
        ((bif decide (IntKind.i64.wrap (IntKind.i64.wrap (2 * n6) + 1) ≥ n3) then true else decide (IntKind.i64.wrap (IntKind.i64.wrap (2 * n6) + 1) < 0)) = true →
        Q (Value.bool (decide (n6 > n2))) H7) ∧
        ((bif decide (IntKind.i64.wrap (IntKind.i64.wrap (2 * n6) + 1) ≥ n3) then true else decide (IntKind.i64.wrap (IntKind.i64.wrap (2 * n6) + 1) < 0)) = false →
        (decide (IntKind.i64.wrap (IntKind.i64.wrap (IntKind.i64.wrap (2 * n6) + 1) + 1) < n3) = true →
        CallI Proofs.Try.prog v1 "Less"
        #[Value.int IntKind.i64 (IntKind.i64.wrap (IntKind.i64.wrap (IntKind.i64.wrap (2 * n6) + 1) + 1)), Value.int IntKind.i64 (IntKind.i64.wrap (IntKind.i64.wrap (2 * n6) + 1))] H7
        fun v8 H9 =>
        ∃ b10,
        v8 = Value.bool b10 ∧
        CallI Proofs.Try.prog v1 "Less"
        #[Value.int IntKind.i64 (bif b10 then IntKind.i64.wrap (IntKind.i64.wrap (IntKind.i64.wrap (2 * n6) + 1) + 1) else IntKind.i64.wrap (IntKind.i64.wrap (2 * n6) + 1)),
        Value.int IntKind.i64 n6]
        H9 fun v11 H12 =>
        ∃ b13,
        v11 = Value.bool b13 ∧
        ((!b13) = true → Q (Value.bool (decide (n6 > n2))) H12) ∧
        ((!b13) = false →
        CallI Proofs.Try.prog v1 "Swap"
        #[Value.int IntKind.i64 n6,
        Value.int IntKind.i64 (bif b10 then IntKind.i64.wrap (IntKind.i64.wrap (IntKind.i64.wrap (2 * n6) + 1) + 1) else IntKind.i64.wrap (IntKind.i64.wrap (2 * n6) + 1))]
        H12 fun v14 H15 =>
        v14 = Value.tuple #[] ∧
        R4
        [Value.int IntKind.i64
        (bif b10 then IntKind.i64.wrap (IntKind.i64.wrap (IntKind.i64.wrap (2 * n6) + 1) + 1) else IntKind.i64.wrap (IntKind.i64.wrap (2 * n6) + 1))]
        H15 ∧
        Less
        (M5
        [Value.int IntKind.i64
        (bif b10 then IntKind.i64.wrap (IntKind.i64.wrap (IntKind.i64.wrap (2 * n6) + 1) + 1) else IntKind.i64.wrap (IntKind.i64.wrap (2 * n6) + 1))]
        H15)
        (M5 [Value.int IntKind.i64 n6] H7))) ∧
        (decide (IntKind.i64.wrap (IntKind.i64.wrap (IntKind.i64.wrap (2 * n6) + 1) + 1) < n3) = !true →
        CallI Proofs.Try.prog v1 "Less" #[Value.int IntKind.i64 (IntKind.i64.wrap (IntKind.i64.wrap (2 * n6) + 1)), Value.int IntKind.i64 n6] H7 fun v16 H17 =>
        ∃ b18,
        v16 = Value.bool b18 ∧
        ((!b18) = true → Q (Value.bool (decide (n6 > n2))) H17) ∧
        ((!b18) = false →
        CallI Proofs.Try.prog v1 "Swap" #[Value.int IntKind.i64 n6, Value.int IntKind.i64 (IntKind.i64.wrap (IntKind.i64.wrap (2 * n6) + 1))] H17 fun v19 H20 =>
        v19 = Value.tuple #[] ∧
        R4 [Value.int IntKind.i64 (IntKind.i64.wrap (IntKind.i64.wrap (2 * n6) + 1))] H20 ∧
        Less (M5 [Value.int IntKind.i64 (IntKind.i64.wrap (IntKind.i64.wrap (2 * n6) + 1))] H20) (M5 [Value.int IntKind.i64 n6] H7))))) :
    Triple Go.Proofs.Try.prog 57 ([v1, Value.int IntKind.i64 n2, Value.int IntKind.i64 n3]).toArray H Q :=
  Triple.of_vc hDown.cx (by kernel_rfl) h

theorem nLen.vc (a1 : Option Addr) (k2 : Nat) (k3 : Nat) (H : PHeap) (Q : Value → PHeap → Prop)
    (h : Q (Value.int IntKind.i64 (↑k2 : Int)) H) :
    Triple Go.Proofs.Try.prog 95 ([Value.slice a1 k2 k3]).toArray H Q :=
  Triple.of_vc nLen.cx (by kernel_rfl) h

theorem nLess.vc (a1 : Option Addr) (k2 : Nat) (k3 : Nat) (n4 : Int) (n5 : Int) (H : PHeap) (Q : Value → PHeap → Prop)
    (h : ∃ H6,
  Vx.Sub H6 H ∧
    Ob (a1 ≠ none ∧ 0 ≤ n4 ∧ n4 < (↑k2 : Int)) ∧
      ∃ n7,
        Reads H6 (elemA a1 n4 1) [Value.int IntKind.i64 n7] ∧
        Ob (a1 ≠ none ∧ 0 ≤ n5 ∧ n5 < (↑k2 : Int)) ∧ ∃ n8, Reads H6 (elemA a1 n5 1) [Value.int IntKind.i64 n8] ∧ Q (Value.bool (decide (n7 < n8))) H) :
    Triple Go.Proofs.Try.prog 96 ([Value.slice a1 k2 k3, Value.int IntKind.i64 n4, Value.int IntKind.i64 n5]).toArray H Q :=
  Triple.of_vc nLess.cx (by kernel_rfl) h

theorem nPop.vc (a1 : Option Addr) (H : PHeap) (Q : Value → PHeap → Prop)
    (h : Ob (a1 ≠ none) ∧
  ∃ a2 k3 k4,
    Reads H a1 [Value.slice a2 k3 k4] ∧
      Ob (a1 ≠ none) ∧
        ∃ a5 k6 k7,
        Reads H a1 [Value.slice a5 k6 k7] ∧
        Ob (a5 ≠ none ∧ 0 ≤ IntKind.i64.wrap ((↑k3 : Int) - 1) ∧ IntKind.i64.wrap ((↑k3 : Int) - 1) < (↑k6 : Int)) ∧
        ∃ n8,
        Reads H (elemA a5 (IntKind.i64.wrap ((↑k3 : Int) - 1)) 1) [Value.int IntKind.i64 n8] ∧
        Ob (a1 ≠ none) ∧
        ∃ a9 k10 k11,
        Reads H a1 [Value.slice a9 k10 k11] ∧
        Ob ((0 : Int) ≤ 0 ∧ 0 ≤ IntKind.i64.wrap ((↑k3 : Int) - 1) ∧ IntKind.i64.wrap ((↑k3 : Int) - 1) ≤ (↑k11 : Int)) ∧
        Ob (a1 ≠ none) ∧
        ∃ H12,
        Writes H H12 a1 [Value.slice (slA a9 0 k11 1) ((IntKind.i64.wrap ((↑k3 : Int) - 1)).toNat - Int.toNat 0) (k11 - Int.toNat 0)] ∧
        Q (Value.iface 3 (Value.int IntKind.i64 n8)) H12) :
    Triple Go.Proofs.Try.prog 97 ([Value.pointer a1]).toArray H Q :=
  Triple.of_vc nPop.cx (by kernel_rfl) h

theorem nPush.vc (a1 : Option Addr) (v2 : Value) (H : PHeap) (Q : Value → PHeap → Prop)
    (h : EvV Proofs.Try.prog (Instr.typeAssert v2 20 3 true) H fun v3 H4 =>
  ∃ n5 b6,
    v3 = Value.tuple #[Value.int IntKind.i64 n5, Value.bool b6] ∧
      (b6 = true →
        Ob (a1 ≠ none) ∧
        ∃ a7 k8 k9,
        Reads H4 a1 [Value.slice a7 k8 k9] ∧
        ∀ (k10 : Nat),
        H4 k10 = none →
        EvV Proofs.Try.prog (Builtin.append_ #[72, 72] 72 #[Value.slice a7 k8 k9, Value.slice (at0 k10) 1 1]) (H4.upd k10 (Obj.cells #[Value.int IntKind.i64 n5] 3))
        fun v11 H12 => ∃ a13 k14 k15, v11 = Value.slice a13 k14 k15 ∧ Ob (a1 ≠ none) ∧ ∃ H16, Writes H12 H16 a1 [Value.slice a13 k14 k15] ∧ Q (Value.tuple #[]) H16) ∧
        (b6 = false → Q (Value.tuple #[]) H4)) :
    Triple Go.Proofs.Try.prog 98 ([Value.pointer a1, v2]).toArray H Q :=
  Triple.of_vc nPush.cx (by kernel_rfl) h

theorem nSwap.vc (a1 : Option Addr) (k2 : Nat) (k3 : Nat) (n4 : Int) (n5 : Int) (H : PHeap) (Q : Value → PHeap → Prop)
    (h : ∃ H6,
  Vx.Sub H6 H ∧
    Ob (a1 ≠ none ∧ 0 ≤ n5 ∧ n5 < (↑k2 : Int)) ∧
      ∃ n7,
        Reads H6 (elemA a1 n5 1) [Value.int IntKind.i64 n7] ∧
        Ob (a1 ≠ none ∧ 0 ≤ n4 ∧ n4 < (↑k2 : Int)) ∧
        ∃ n8,
        Reads H6 (elemA a1 n4 1) [Value.int IntKind.i64 n8] ∧
        Ob (a1 ≠ none ∧ 0 ≤ n4 ∧ n4 < (↑k2 : Int)) ∧
        ∃ H9,
        Writes H H9 (elemA a1 n4 1) [Value.int IntKind.i64 n7] ∧
        Ob (a1 ≠ none ∧ 0 ≤ n5 ∧ n5 < (↑k2 : Int)) ∧ ∃ H10, Writes H9 H10 (elemA a1 n5 1) [Value.int IntKind.i64 n8] ∧ Q (Value.tuple #[]) H10) :
    Triple Go.Proofs.Try.prog 99 ([Value.slice a1 k2 k3, Value.int IntKind.i64 n4, Value.int IntKind.i64 n5]).toArray H Q :=
  Triple.of_vc nSwap.cx (by kernel_rfl) h

theorem refRest.vc (a1 : Option Addr) (k2 : Nat) (k3 : Nat) (a4 : Option Addr) (k5 : Nat) (k6 : Nat) (H : PHeap) (Q : Value → PHeap → Prop)
    (h : ∃ (R7 : Rl) (M8 : Mu),
  R7 [Value.slice none 0 0, Value.int IntKind.i64 0] H ∧
    ∀ (a9 : Option Addr) (k10 k11 : Nat) (n12 : Int) (H13 : PHeap),
      R7 [Value.slice a9 k10 k11, Value.int IntKind.i64 n12] H13 →
        (decide (n12 < (↑k2 : Int)) = true →
        Ob (a1 ≠ none ∧ 0 ≤ n12 ∧ n12 < (↑k2 : Int)) ∧
        ∃ n14,
        Reads H13 (elemA a1 n12 1) [Value.int IntKind.i64 n14] ∧
        Triple Proofs.Try.prog 53 #[Value.slice a4 k5 k6, Value.int IntKind.i64 n14] H13 fun v15 H16 =>
        ∃ b17,
        v15 = Value.bool b17 ∧
        (b17 = false →
        Ob (a1 ≠ none ∧ 0 ≤ n12 ∧ n12 < (↑k2 : Int)) ∧
        ∃ n18,
        Reads H16 (elemA a1 n12 1) [Value.int IntKind.i64 n18] ∧
        Triple Proofs.Try.prog 53 #[Value.slice a9 k10 k11, Value.int IntKind.i64 n18] H16 fun v19 H20 =>
        ∃ b21,
        v19 = Value.bool b21 ∧
        (b21 = true →
        R7 [Value.slice a9 k10 k11, Value.int IntKind.i64 (IntKind.i64.wrap (n12 + 1))] H20 ∧
        Less (M8 [Value.slice a9 k10 k11, Value.int IntKind.i64 (IntKind.i64.wrap (n12 + 1))] H20) (M8 [Value.slice a9 k10 k11, Value.int IntKind.i64 n12] H13)) ∧
        (b21 = false →
        ∃ (R22 : Rl) (M23 : Mu),
        R22 [Value.int IntKind.i64 0] H20 ∧
        ∀ (n24 : Int) (H25 : PHeap),
        R22 [Value.int IntKind.i64 n24] H25 →
        ∃ H26,
        Vx.Sub H26 H25 ∧
        (decide (n24 < (↑k10 : Int)) = true →
        Ob (a9 ≠ none ∧ 0 ≤ n24 ∧ n24 < (↑k10 : Int)) ∧
        ∃ n27,
        Reads H26 (elemA a9 n24 1) [Value.int IntKind.i64 n27] ∧
        Ob (a1 ≠ none ∧ 0 ≤ n12 ∧ n12 < (↑k2 : Int)) ∧
        ∃ n28,
        Reads H26 (elemA a1 n12 1) [Value.int IntKind.i64 n28] ∧
        (decide (n27 < n28) = true →
        R22 [Value.int IntKind.i64 (IntKind.i64.wrap (n24 + 1))] H25 ∧
        Less (M23 [Value.int IntKind.i64 (IntKind.i64.wrap (n24 + 1))] H25) (M23 [Value.int IntKind.i64 n24] H25)) ∧
        (decide (n27 < n28) = false →
        ∃ H29,
        Vx.Sub H29 H25 ∧
        Ob (a1 ≠ none ∧ 0 ≤ n12 ∧ n12 < (↑k2 : Int)) ∧
        ∃ n30,
        Reads H29 (elemA a1 n12 1) [Value.int IntKind.i64 n30] ∧
        Ob (0 ≤ n24 ∧ n24 ≤ (↑k10 : Int) ∧ (↑k10 : Int) ≤ (↑k11 : Int)) ∧
        ∀ (k31 : Nat),
        H25 k31 = none →
        EvV Proofs.Try.prog
        (Builtin.append_ #[29, 29] 29
        #[Value.slice (at0 k31) 1 1,
        Value.slice (slA a9 n24 k11 1) ((↑k10 : Int).toNat - n24.toNat) (k11 - n24.toNat)])
        (H25.upd k31 (Obj.cells #[Value.int IntKind.i64 n30] 3)) fun v32 H33 =>
        ∃ a34 k35 k36,
        v32 = Value.slice a34 k35 k36 ∧
        ∀ (k37 : Nat),
        H33 k37 = none →
        Ob ((0 : Int) ≤ 0 ∧ 0 ≤ n24 ∧ n24 ≤ (↑k11 : Int)) ∧
        EvV Proofs.Try.prog
        (Builtin.append_ #[29, 29] 29
        #[Value.slice (at0 k37) 0 0,
        Value.slice (slA a9 0 k11 1) (n24.toNat - Int.toNat 0) (k11 - Int.toNat 0)])
        (H33.upd k37 (Obj.cells #[] 3)) fun v38 H39 =>
        ∃ a40 k41 k42,
        v38 = Value.slice a40 k41 k42 ∧
        EvV Proofs.Try.prog
        (Builtin.append_ #[29, 29] 29 #[Value.slice a40 k41 k42, Value.slice a34 k35 k36]) H39
        fun v43 H44 =>
        ∃ a45 k46 k47,
        v43 = Value.slice a45 k46 k47 ∧
        R7 [Value.slice a45 k46 k47, Value.int IntKind.i64 (IntKind.i64.wrap (n12 + 1))]
        H44 ∧
        Less
        (M8
        [Value.slice a45 k46 k47, Value.int IntKind.i64 (IntKind.i64.wrap (n12 + 1))]
        H44)
        (M8 [Value.slice a9 k10 k11, Value.int IntKind.i64 n12] H13))) ∧
        (decide (n24 < (↑k10 : Int)) = !true →
        ∃ H48,
        Vx.Sub H48 H25 ∧
        Ob (a1 ≠ none ∧ 0 ≤ n12 ∧ n12 < (↑k2 : Int)) ∧
        ∃ n49,
        Reads H48 (elemA a1 n12 1) [Value.int IntKind.i64 n49] ∧
        Ob (0 ≤ n24 ∧ n24 ≤ (↑k10 : Int) ∧ (↑k10 : Int) ≤ (↑k11 : Int)) ∧
        ∀ (k50 : Nat),
        H25 k50 = none →
        EvV Proofs.Try.prog
        (Builtin.append_ #[29, 29] 29
        #[Value.slice (at0 k50) 1 1,
        Value.slice (slA a9 n24 k11 1) ((↑k10 : Int).toNat - n24.toNat) (k11 - n24.toNat)])
        (H25.upd k50 (Obj.cells #[Value.int IntKind.i64 n49] 3)) fun v51 H52 =>
        ∃ a53 k54 k55,
        v51 = Value.slice a53 k54 k55 ∧
        ∀ (k56 : Nat),
        H52 k56 = none →
        Ob ((0 : Int) ≤ 0 ∧ 0 ≤ n24 ∧ n24 ≤ (↑k11 : Int)) ∧
        EvV Proofs.Try.prog
        (Builtin.append_ #[29, 29] 29
        #[Value.slice (at0 k56) 0 0,
        Value.slice (slA a9 0 k11 1) (n24.toNat - Int.toNat 0) (k11 - Int.toNat 0)])
        (H52.upd k56 (Obj.cells #[] 3)) fun v57 H58 =>
        ∃ a59 k60 k61,
        v57 = Value.slice a59 k60 k61 ∧
        EvV Proofs.Try.prog (Builtin.append_ #[29, 29] 29 #[Value.slice a59 k60 k61, Value.slice a53 k54 k55]) H58
        fun v62 H63 =>
        ∃ a64 k65 k66,
        v62 = Value.slice a64 k65 k66 ∧
        R7 [Value.slice a64 k65 k66, Value.int IntKind.i64 (IntKind.i64.wrap (n12 + 1))] H63 ∧
        Less (M8 [Value.slice a64 k65 k66, Value.int IntKind.i64 (IntKind.i64.wrap (n12 + 1))] H63)
        (M8 [Value.slice a9 k10 k11, Value.int IntKind.i64 n12] H13)))) ∧
        (b17 = !false →
        R7 [Value.slice a9 k10 k11, Value.int IntKind.i64 (IntKind.i64.wrap (n12 + 1))] H16 ∧
        Less (M8 [Value.slice a9 k10 k11, Value.int IntKind.i64 (IntKind.i64.wrap (n12 + 1))] H16) (M8 [Value.slice a9 k10 k11, Value.int IntKind.i64 n12] H13))) ∧
        (decide (n12 < (↑k2 : Int)) = false → Q (Value.slice a9 k10 k11) H13)) :
    Triple Go.Proofs.Try.prog 37 ([Value.slice a1 k2 k3, Value.slice a4 k5 k6]).toArray H Q :=
  Triple.of_vc refRest.cx (by kernel_rfl) h

theorem refHas.vc (a1 : Option Addr) (k2 : Nat) (k3 : Nat) (n4 : Int) (H : PHeap) (Q : Value → PHeap → Prop)
    (h : ∃ (R5 : Rl) (M6 : Mu),
  R5 [Value.int IntKind.i64 0] H ∧
    ∀ (n7 : Int) (H8 : PHeap),
      R5 [Value.int IntKind.i64 n7] H8 →
        (decide (n7 < (↑k2 : Int)) = true →
        Ob (a1 ≠ none ∧ 0 ≤ n7 ∧ n7 < (↑k2 : Int)) ∧
        ∃ n9,
        Reads H8 (elemA a1 n7 1) [Value.int IntKind.i64 n9] ∧
        ((n9 == n4) = true → Q (Value.bool true) H8) ∧
        ((n9 == n4) = false →
        R5 [Value.int IntKind.i64 (IntKind.i64.wrap (n7 + 1))] H8 ∧ Less (M6 [Value.int IntKind.i64 (IntKind.i64.wrap (n7 + 1))] H8) (M6 [Value.int IntKind.i64 n7] H8))) ∧
        (decide (n7 < (↑k2 : Int)) = false → Q (Value.bool false) H8)) :
    Triple Go.Proofs.Try.prog 53 ([Value.slice a1 k2 k3, Value.int IntKind.i64 n4]).toArray H Q :=
  Triple.of_vc refHas.cx (by kernel_rfl) h

end Go.Vc
