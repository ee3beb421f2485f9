/- What is to be shown of each function, in its normal form. Printed by a program of this session's, checked by the kernel. -/
import Derived.Test.YtllbdocjgdnofaaVxN
import Derived.Test.YtllbdocjgdnofaaProg
set_option linter.unusedVariables false
set_option maxRecDepth 100000
namespace Go.Vc
open Go.Vx Go
def cloneM.cx : Cx := ⟨[], [], [], []⟩
def cloneI.cx : Cx := ⟨[], [], [], []⟩
def delFunc.cx : Cx := ⟨[], [(5, [5, 6], [])], [], []⟩
def idxFuncM.cx : Cx := ⟨[], [(2, [8], [])], [], []⟩
def contains.cx : Cx := ⟨[], [], [], []⟩
def index.cx : Cx := ⟨[], [(2, [8], [])], [], []⟩
def farM.cx : Cx := ⟨[], [], [], []⟩
def farSR.cx : Cx := ⟨[], [(2, [3], [])], [], []⟩
def sameInts.cx : Cx := ⟨[], [(4, [5], [])], [], []⟩

theorem cloneM.vc (a1 : Option Addr) (k2 : Nat) (k3 : Nat) (H : PHeap) (Q : Value → PHeap → Prop)
    (h : (a1.isNone = true → Q (Value.slice none 0 0) H) ∧
  (a1.isNone = false →
    ∀ (k4 : Nat),
      H k4 = none →
        EvV Proofs.Try.prog (Builtin.append_ #[32, 32] 32 #[Value.slice (at0 k4) 0 0, Value.slice a1 k2 k3]) (H.upd k4 (Obj.cells #[] 38)) fun v5 H6 =>
        ∃ a7 k8 k9, v5 = Value.slice a7 k8 k9 ∧ Q (Value.slice a7 k8 k9) H6)) :
    Triple Go.Proofs.Try.prog 41 ([Value.slice a1 k2 k3]).toArray H Q :=
  Triple.of_vc cloneM.cx (by kernel_rfl) h

theorem cloneI.vc (a1 : Option Addr) (k2 : Nat) (k3 : Nat) (H : PHeap) (Q : Value → PHeap → Prop)
    (h : (a1.isNone = true → Q (Value.slice none 0 0) H) ∧
  (a1.isNone = false →
    ∀ (k4 : Nat),
      H k4 = none →
        EvV Proofs.Try.prog (Builtin.append_ #[29, 29] 29 #[Value.slice (at0 k4) 0 0, Value.slice a1 k2 k3]) (H.upd k4 (Obj.cells #[] 3)) fun v5 H6 =>
        ∃ a7 k8 k9, v5 = Value.slice a7 k8 k9 ∧ Q (Value.slice a7 k8 k9) H6)) :
    Triple Go.Proofs.Try.prog 39 ([Value.slice a1 k2 k3]).toArray H Q :=
  Triple.of_vc cloneI.cx (by kernel_rfl) h

theorem delFunc.vc (a1 : Option Addr) (k2 : Nat) (k3 : Nat) (v4 : Value) (H : PHeap) (Q : Value → PHeap → Prop)
    (h : Triple Proofs.Try.prog 54 #[Value.slice a1 k2 k3, v4] H fun v5 H6 =>
  ∃ n7,
    v5 = Value.int IntKind.i64 n7 ∧
      ((n7 == -1) = true → Q (Value.slice a1 k2 k3) H6) ∧
        ((n7 == -1) = false →
        ∃ (R8 : Rl) (M9 : Mu),
        R8 [Value.int IntKind.i64 n7, Value.int IntKind.i64 (IntKind.i64.wrap (n7 + 1))] H6 ∧
        ∀ (n10 n11 : Int) (H12 : PHeap),
        R8 [Value.int IntKind.i64 n10, Value.int IntKind.i64 n11] H12 →
        (decide (n11 < (↑k2 : Int)) = true →
        Ob (a1 ≠ none ∧ 0 ≤ n11 ∧ n11 < (↑k2 : Int)) ∧
        ∃ n13 n14 n15 n16 s17 n18 n19 n20 n21 n22 a23 k24 k25 a26 k27 k28 a29 k30 k31,
        Reads H12 (elemA a1 n11 13)
        [Value.int IntKind.i64 n13, Value.int IntKind.i64 n14, Value.int IntKind.i64 n15, Value.int IntKind.i64 n16, Value.string s17, Value.int IntKind.i64 n18,
        Value.int IntKind.i64 n19, Value.int IntKind.i64 n20, Value.int IntKind.i64 n21, Value.int IntKind.i64 n22, Value.slice a23 k24 k25, Value.slice a26 k27 k28,
        Value.slice a29 k30 k31] ∧
        CallY Proofs.Try.prog v4
        #[Value.agg
        #[Value.int IntKind.i64 n13, Value.int IntKind.i64 n14, Value.int IntKind.i64 n15, Value.int IntKind.i64 n16, Value.string s17, Value.int IntKind.i64 n18,
        Value.int IntKind.i64 n19, Value.int IntKind.i64 n20, Value.int IntKind.i64 n21, Value.int IntKind.i64 n22, Value.slice a23 k24 k25, Value.slice a26 k27 k28,
        Value.slice a29 k30 k31]]
        H12 fun v32 H33 =>
        ∃ b34,
        v32 = Value.bool b34 ∧
        ((!b34) = true →
        Ob (a1 ≠ none ∧ 0 ≤ n10 ∧ n10 < (↑k2 : Int)) ∧
        ∃ H35,
        Writes H33 H35 (elemA a1 n10 13)
        [Value.int IntKind.i64 n13, Value.int IntKind.i64 n14, Value.int IntKind.i64 n15, Value.int IntKind.i64 n16, Value.string s17, Value.int IntKind.i64 n18,
        Value.int IntKind.i64 n19, Value.int IntKind.i64 n20, Value.int IntKind.i64 n21, Value.int IntKind.i64 n22, Value.slice a23 k24 k25,
        Value.slice a26 k27 k28, Value.slice a29 k30 k31] ∧
        R8 [Value.int IntKind.i64 (IntKind.i64.wrap (n10 + 1)), Value.int IntKind.i64 (IntKind.i64.wrap (n11 + 1))] H35 ∧
        Less (M9 [Value.int IntKind.i64 (IntKind.i64.wrap (n10 + 1)), Value.int IntKind.i64 (IntKind.i64.wrap (n11 + 1))] H35)
        (M9 [Value.int IntKind.i64 n10, Value.int IntKind.i64 n11] H12)) ∧
        ((!b34) = false →
        R8 [Value.int IntKind.i64 n10, Value.int IntKind.i64 (IntKind.i64.wrap (n11 + 1))] H33 ∧
        Less (M9 [Value.int IntKind.i64 n10, Value.int IntKind.i64 (IntKind.i64.wrap (n11 + 1))] H33)
        (M9 [Value.int IntKind.i64 n10, Value.int IntKind.i64 n11] H12))) ∧
        (decide (n11 < (↑k2 : Int)) = false →
        Ob (0 ≤ n10 ∧ n10 ≤ (↑k2 : Int) ∧ (↑k2 : Int) ≤ (↑k3 : Int)) ∧
        EvV Proofs.Try.prog (Builtin.clear_ #[32] 0 #[Value.slice (slA a1 n10 k3 13) ((↑k2 : Int).toNat - n10.toNat) (k3 - n10.toNat)]) H12 fun v36 H37 =>
        Ob ((0 : Int) ≤ 0 ∧ 0 ≤ n10 ∧ n10 ≤ (↑k3 : Int)) ∧ Q (Value.slice (slA a1 0 k3 13) (n10.toNat - Int.toNat 0) (k3 - Int.toNat 0)) H37))) :
    Triple Go.Proofs.Try.prog 40 ([Value.slice a1 k2 k3, v4]).toArray H Q :=
  Triple.of_vc delFunc.cx (by kernel_rfl) h

theorem idxFuncM.vc (a1 : Option Addr) (k2 : Nat) (k3 : Nat) (v4 : Value) (H : PHeap) (Q : Value → PHeap → Prop)
    (h : ∃ (R5 : Rl) (M6 : Mu),
  R5 [Value.int IntKind.i64 0] H ∧
    ∀ (n7 : Int) (H8 : PHeap),
      R5 [Value.int IntKind.i64 n7] H8 →
        (decide (n7 < (↑k2 : Int)) = true →
        Ob (a1 ≠ none ∧ 0 ≤ n7 ∧ n7 < (↑k2 : Int)) ∧
        ∃ n9 n10 n11 n12 s13 n14 n15 n16 n17 n18 a19 k20 k21 a22 k23 k24 a25 k26 k27,
        Reads H8 (elemA a1 n7 13)
        [Value.int IntKind.i64 n9, Value.int IntKind.i64 n10, Value.int IntKind.i64 n11, Value.int IntKind.i64 n12, Value.string s13, Value.int IntKind.i64 n14, Value.int IntKind.i64 n15,
        Value.int IntKind.i64 n16, Value.int IntKind.i64 n17, Value.int IntKind.i64 n18, Value.slice a19 k20 k21, Value.slice a22 k23 k24, Value.slice a25 k26 k27] ∧
        CallY Proofs.Try.prog v4
        #[Value.agg
        #[Value.int IntKind.i64 n9, Value.int IntKind.i64 n10, Value.int IntKind.i64 n11, Value.int IntKind.i64 n12, Value.string s13, Value.int IntKind.i64 n14,
        Value.int IntKind.i64 n15, Value.int IntKind.i64 n16, Value.int IntKind.i64 n17, Value.int IntKind.i64 n18, Value.slice a19 k20 k21, Value.slice a22 k23 k24,
        Value.slice a25 k26 k27]]
        H8 fun v28 H29 =>
        ∃ b30,
        v28 = Value.bool b30 ∧
        (b30 = true → Q (Value.int IntKind.i64 n7) H29) ∧
        (b30 = false →
        R5 [Value.int IntKind.i64 (IntKind.i64.wrap (n7 + 1))] H29 ∧ Less (M6 [Value.int IntKind.i64 (IntKind.i64.wrap (n7 + 1))] H29) (M6 [Value.int IntKind.i64 n7] H8))) ∧
        (decide (n7 < (↑k2 : Int)) = false → Q (Value.int IntKind.i64 (-1)) H8)) :
    Triple Go.Proofs.Try.prog 54 ([Value.slice a1 k2 k3, v4]).toArray H Q :=
  Triple.of_vc idxFuncM.cx (by kernel_rfl) h

theorem contains.vc (a1 : Option Addr) (k2 : Nat) (k3 : Nat) (n4 : Int) (H : PHeap) (Q : Value → PHeap → Prop)
    (h : Triple Proofs.Try.prog 55 #[Value.slice a1 k2 k3, Value.int IntKind.i64 n4] H fun v5 H6 => ∃ n7, v5 = Value.int IntKind.i64 n7 ∧ Q (Value.bool (decide (n7 ≥ 0))) H6) :
    Triple Go.Proofs.Try.prog 43 ([Value.slice a1 k2 k3, Value.int IntKind.i64 n4]).toArray H Q :=
  Triple.of_vc contains.cx (by kernel_rfl) h

theorem index.vc (a1 : Option Addr) (k2 : Nat) (k3 : Nat) (n4 : Int) (H : PHeap) (Q : Value → PHeap → Prop)
    (h : ∃ (R5 : Rl) (M6 : Mu),
  R5 [Value.int IntKind.i64 0] H ∧
    ∀ (n7 : Int) (H8 : PHeap),
      R5 [Value.int IntKind.i64 n7] H8 →
        (decide (n7 < (↑k2 : Int)) = true →
        Ob (a1 ≠ none ∧ 0 ≤ n7 ∧ n7 < (↑k2 : Int)) ∧
        ∃ n9,
        Reads H8 (elemA a1 n7 1) [Value.int IntKind.i64 n9] ∧
        ((n4 == n9) = true → Q (Value.int IntKind.i64 n7) H8) ∧
        ((n4 == n9) = false →
        R5 [Value.int IntKind.i64 (IntKind.i64.wrap (n7 + 1))] H8 ∧ Less (M6 [Value.int IntKind.i64 (IntKind.i64.wrap (n7 + 1))] H8) (M6 [Value.int IntKind.i64 n7] H8))) ∧
        (decide (n7 < (↑k2 : Int)) = false → Q (Value.int IntKind.i64 (-1)) H8)) :
    Triple Go.Proofs.Try.prog 55 ([Value.slice a1 k2 k3, Value.int IntKind.i64 n4]).toArray H Q :=
  Triple.of_vc index.cx (by kernel_rfl) h

theorem farM.vc (n1 : Int) (n2 : Int) (n3 : Int) (n4 : Int) (s5 : ByteArray) (n6 : Int) (n7 : Int) (n8 : Int) (n9 : Int) (n10 : Int) (a11 : Option Addr) (k12 : Nat) (k13 : Nat) (a14 : Option Addr) (k15 : Nat) (k16 : Nat) (a17 : Option Addr) (k18 : Nat) (k19 : Nat) (H : PHeap) (Q : Value → PHeap → Prop)
    (h : (decide ((↑s5.size : Int) > 40) = false →
    (decide ((↑k12 : Int) > 300) = false →
        (decide ((↑k15 : Int) > 20) = false →
        (decide ((↑k18 : Int) > 300) = false → Triple Proofs.Try.prog 6 #[Value.slice a14 k15 k16] H fun v20 H21 => ∃ b22, v20 = Value.bool b22 ∧ Q (Value.bool b22) H21) ∧
        (decide ((↑k18 : Int) > 300) = !false → Q (Value.bool true) H)) ∧
        (decide ((↑k15 : Int) > 20) = !false → Q (Value.bool true) H)) ∧
      (decide ((↑k12 : Int) > 300) = !false → Q (Value.bool true) H)) ∧
  (decide ((↑s5.size : Int) > 40) = !false → Q (Value.bool true) H)) :
    Triple Go.Proofs.Try.prog 15 ([Value.agg
    #[Value.int IntKind.i64 n1, Value.int IntKind.i64 n2, Value.int IntKind.i64 n3, Value.int IntKind.i64 n4, Value.string s5, Value.int IntKind.i64 n6, Value.int IntKind.i64 n7,
      Value.int IntKind.i64 n8, Value.int IntKind.i64 n9, Value.int IntKind.i64 n10, Value.slice a11 k12 k13, Value.slice a14 k15 k16, Value.slice a17 k18 k19]]).toArray H Q :=
  Triple.of_vc farM.cx (by kernel_rfl) h

theorem farSR.vc (a1 : Option Addr) (k2 : Nat) (k3 : Nat) (H : PHeap) (Q : Value → PHeap → Prop)
    (h : ∃ (R4 : Rl) (M5 : Mu),
  R4 [Value.int IntKind.i64 0] H ∧
    ∀ (n6 : Int) (H7 : PHeap),
      R4 [Value.int IntKind.i64 n6] H7 →
        ((bif decide (n6 < (↑k2 : Int)) then decide (n6 < 100) else false) = true →
        Ob (a1 ≠ none ∧ 0 ≤ n6 ∧ n6 < (↑k2 : Int)) ∧
        ∃ s8,
        Reads H7 (elemA a1 n6 1) [Value.string s8] ∧
        (decide ((↑s8.size : Int) > 40) = true → Q (Value.bool true) H7) ∧
        (decide ((↑s8.size : Int) > 40) = false →
        R4 [Value.int IntKind.i64 (IntKind.i64.wrap (n6 + 1))] H7 ∧ Less (M5 [Value.int IntKind.i64 (IntKind.i64.wrap (n6 + 1))] H7) (M5 [Value.int IntKind.i64 n6] H7))) ∧
        ((bif decide (n6 < (↑k2 : Int)) then decide (n6 < 100) else false) = false → Q (Value.bool (decide ((↑k2 : Int) > 60))) H7)) :
    Triple Go.Proofs.Try.prog 6 ([Value.slice a1 k2 k3]).toArray H Q :=
  Triple.of_vc farSR.cx (by kernel_rfl) h

theorem sameInts.vc (a1 : Option Addr) (k2 : Nat) (k3 : Nat) (a4 : Option Addr) (k5 : Nat) (k6 : Nat) (H : PHeap) (Q : Value → PHeap → Prop)
    (h : (((↑k2 : Int) != (↑k5 : Int)) = true → Q (Value.bool false) H) ∧
  (((↑k2 : Int) != (↑k5 : Int)) = false →
    ∃ (R7 : Rl) (M8 : Mu),
      R7 [Value.int IntKind.i64 0] H ∧
        ∀ (n9 : Int) (H10 : PHeap),
        R7 [Value.int IntKind.i64 n9] H10 →
        (decide (n9 < (↑k2 : Int)) = true →
        ∃ H11,
        Vx.Sub H11 H10 ∧
        Ob (a1 ≠ none ∧ 0 ≤ n9 ∧ n9 < (↑k2 : Int)) ∧
        ∃ n12,
        Reads H11 (elemA a1 n9 1) [Value.int IntKind.i64 n12] ∧
        Ob (a4 ≠ none ∧ 0 ≤ n9 ∧ n9 < (↑k5 : Int)) ∧
        ∃ n13,
        Reads H11 (elemA a4 n9 1) [Value.int IntKind.i64 n13] ∧
        ((n12 != n13) = true → Q (Value.bool false) H10) ∧
        ((n12 != n13) = false →
        R7 [Value.int IntKind.i64 (IntKind.i64.wrap (n9 + 1))] H10 ∧
        Less (M8 [Value.int IntKind.i64 (IntKind.i64.wrap (n9 + 1))] H10) (M8 [Value.int IntKind.i64 n9] H10))) ∧
        (decide (n9 < (↑k2 : Int)) = false → Q (Value.bool true) H10))) :
    Triple Go.Proofs.Try.prog 19 ([Value.slice a1 k2 k3, Value.slice a4 k5 k6]).toArray H Q :=
  Triple.of_vc sameInts.cx (by kernel_rfl) h

end Go.Vc
