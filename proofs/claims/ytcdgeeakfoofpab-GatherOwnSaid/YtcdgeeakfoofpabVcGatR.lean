/- What is to be shown of each function, in its normal form. Printed by a program of this session's, checked by the kernel. -/
import Derived.Test.YtcdgeeakfoofpabVxN
import Derived.Test.YtcdgeeakfoofpabProg
set_option linter.unusedVariables false
set_option maxRecDepth 100000
namespace Go.Vc
open Go.Vx Go
def rKnow.cx : Cx := ⟨[], [], [], []⟩
def rTake.cx : Cx := ⟨[], [(7, [7, 8, 9, 10], [])], [], []⟩
def rDone.cx : Cx := ⟨[], [(3, [4, 5], [])], [], []⟩
def rPlace.cx : Cx := ⟨[], [(2, [5], [])], [], []⟩
def rDump.cx : Cx := ⟨[], [(6, [4, 5], []), (11, [4, 6], [])], [], []⟩
def nNum.cx : Cx := ⟨[], [(6, [1, 6], [])], [], []⟩
def nText.cx : Cx := ⟨[], [], [], []⟩
def nWidth.cx : Cx := ⟨[], [], [], []⟩
def sameL.cx : Cx := ⟨[], [(4, [5], [])], [], []⟩
def sameB.cx : Cx := ⟨[], [(4, [5], [])], [], []⟩
def sameInts.cx : Cx := ⟨[], [(4, [5], [])], [], []⟩

theorem rKnow.vc (a1 : Option Addr) (a2 : Option Addr) (k3 : Nat) (k4 : Nat) (H : PHeap) (Q : Value → PHeap → Prop)
    (h : Ob (a1 ≠ none) ∧
  Ob (a1 ≠ none) ∧
    ∃ b5,
      Reads H (fldA a1 0) [Value.bool b5] ∧
        (b5 = true → Q (Value.bool false) H) ∧
        (b5 = false →
        Ob (a1 ≠ none) ∧
        Ob (a1 ≠ none) ∧
        ∃ H6,
        Writes H H6 (fldA a1 0) [Value.bool true] ∧
        ∀ (k7 : Nat),
        H6 k7 = none →
        EvV Proofs.Try.prog (Builtin.append_ #[24, 24] 24 #[Value.slice (at0 k7) 0 0, Value.slice a2 k3 k4]) (H6.upd k7 (Obj.cells #[] 3)) fun v8 H9 =>
        ∃ a10 k11 k12, v8 = Value.slice a10 k11 k12 ∧ Ob (a1 ≠ none) ∧ Ob (a1 ≠ none) ∧ ∃ H13, Writes H9 H13 (fldA a1 1) [Value.slice a10 k11 k12] ∧ Q (Value.bool true) H13)) :
    Triple Go.Proofs.Try.prog 9 ([Value.pointer a1, Value.slice a2 k3 k4]).toArray H Q :=
  Triple.of_vc rKnow.cx (by kernel_rfl) h

theorem rTake.vc (a1 : Option Addr) (n2 : Int) (a3 : Option Addr) (k4 : Nat) (k5 : Nat) (H : PHeap) (Q : Value → PHeap → Prop)
    (h : Triple Proofs.Try.prog 20 #[Value.pointer a1, Value.int IntKind.i64 n2] H fun v6 H7 =>
  ∃ n8,
    v6 = Value.int IntKind.i64 n8 ∧
      (decide (n8 ≥ 0) = true → Q (Value.bool false) H7) ∧
        (decide (n8 ≥ 0) = false →
        ∃ (R9 : Rl) (M10 : Mu),
        R9 [Value.slice none 0 0, Value.slice none 0 0, Value.bool false, Value.int IntKind.i64 0] H7 ∧
        ∀ (a11 : Option Addr) (k12 k13 : Nat) (a14 : Option Addr) (k15 k16 : Nat) (b17 : Bool) (n18 : Int) (H19 : PHeap),
        R9 [Value.slice a11 k12 k13, Value.slice a14 k15 k16, Value.bool b17, Value.int IntKind.i64 n18] H19 →
        Ob (a1 ≠ none) ∧
        Ob (a1 ≠ none) ∧
        ∃ a20 k21 k22,
        Reads H19 (fldA a1 2) [Value.slice a20 k21 k22] ∧
        (decide (n18 < (↑k21 : Int)) = true →
        ((!b17) = true →
        Ob (a1 ≠ none) ∧
        Ob (a1 ≠ none) ∧
        ∃ a23 k24 k25,
        Reads H19 (fldA a1 2) [Value.slice a23 k24 k25] ∧
        Ob (a23 ≠ none ∧ 0 ≤ n18 ∧ n18 < (↑k24 : Int)) ∧
        ∃ n26,
        Reads H19 (elemA a23 n18 1) [Value.int IntKind.i64 n26] ∧
        (decide (n2 < n26) = true →
        ∀ (k27 : Nat),
        H19 k27 = none →
        EvV Proofs.Try.prog (Builtin.append_ #[24, 24] 24 #[Value.slice a11 k12 k13, Value.slice (at0 k27) 1 1])
        (H19.upd k27 (Obj.cells #[Value.int IntKind.i64 n2] 3)) fun v28 H29 =>
        ∃ a30 k31 k32,
        v28 = Value.slice a30 k31 k32 ∧
        ∀ (k33 : Nat),
        H29 k33 = none →
        EvV Proofs.Try.prog (Builtin.append_ #[29, 29] 29 #[Value.slice a14 k15 k16, Value.slice (at0 k33) 1 1])
        (H29.upd k33 (Obj.cells #[Value.slice a3 k4 k5] 32)) fun v34 H35 =>
        ∃ a36 k37 k38,
        v34 = Value.slice a36 k37 k38 ∧
        Ob (a1 ≠ none) ∧
        Ob (a1 ≠ none) ∧
        ∃ a39 k40 k41,
        Reads H35 (fldA a1 2) [Value.slice a39 k40 k41] ∧
        Ob (a39 ≠ none ∧ 0 ≤ n18 ∧ n18 < (↑k40 : Int)) ∧
        ∃ n42,
        Reads H35 (elemA a39 n18 1) [Value.int IntKind.i64 n42] ∧
        ∀ (k43 : Nat),
        H35 k43 = none →
        EvV Proofs.Try.prog
        (Builtin.append_ #[24, 24] 24 #[Value.slice a30 k31 k32, Value.slice (at0 k43) 1 1])
        (H35.upd k43 (Obj.cells #[Value.int IntKind.i64 n42] 3)) fun v44 H45 =>
        ∃ a46 k47 k48,
        v44 = Value.slice a46 k47 k48 ∧
        Ob (a1 ≠ none) ∧
        Ob (a1 ≠ none) ∧
        ∃ a49 k50 k51,
        Reads H45 (fldA a1 3) [Value.slice a49 k50 k51] ∧
        Ob (a49 ≠ none ∧ 0 ≤ n18 ∧ n18 < (↑k50 : Int)) ∧
        ∃ a52 k53 k54,
        Reads H45 (elemA a49 n18 1) [Value.slice a52 k53 k54] ∧
        ∀ (k55 : Nat),
        H45 k55 = none →
        EvV Proofs.Try.prog
        (Builtin.append_ #[29, 29] 29
        #[Value.slice a36 k37 k38, Value.slice (at0 k55) 1 1])
        (H45.upd k55 (Obj.cells #[Value.slice a52 k53 k54] 32)) fun v56 H57 =>
        ∃ a58 k59 k60,
        v56 = Value.slice a58 k59 k60 ∧
        R9
        [Value.slice a46 k47 k48, Value.slice a58 k59 k60, Value.bool true,
        Value.int IntKind.i64 (IntKind.i64.wrap (n18 + 1))]
        H57 ∧
        Less
        (M10
        [Value.slice a46 k47 k48, Value.slice a58 k59 k60, Value.bool true,
        Value.int IntKind.i64 (IntKind.i64.wrap (n18 + 1))]
        H57)
        (M10
        [Value.slice a11 k12 k13, Value.slice a14 k15 k16, Value.bool b17,
        Value.int IntKind.i64 n18]
        H19)) ∧
        (decide (n2 < n26) = false →
        Ob (a1 ≠ none) ∧
        Ob (a1 ≠ none) ∧
        ∃ a61 k62 k63,
        Reads H19 (fldA a1 2) [Value.slice a61 k62 k63] ∧
        Ob (a61 ≠ none ∧ 0 ≤ n18 ∧ n18 < (↑k62 : Int)) ∧
        ∃ n64,
        Reads H19 (elemA a61 n18 1) [Value.int IntKind.i64 n64] ∧
        ∀ (k65 : Nat),
        H19 k65 = none →
        EvV Proofs.Try.prog (Builtin.append_ #[24, 24] 24 #[Value.slice a11 k12 k13, Value.slice (at0 k65) 1 1])
        (H19.upd k65 (Obj.cells #[Value.int IntKind.i64 n64] 3)) fun v66 H67 =>
        ∃ a68 k69 k70,
        v66 = Value.slice a68 k69 k70 ∧
        Ob (a1 ≠ none) ∧
        Ob (a1 ≠ none) ∧
        ∃ a71 k72 k73,
        Reads H67 (fldA a1 3) [Value.slice a71 k72 k73] ∧
        Ob (a71 ≠ none ∧ 0 ≤ n18 ∧ n18 < (↑k72 : Int)) ∧
        ∃ a74 k75 k76,
        Reads H67 (elemA a71 n18 1) [Value.slice a74 k75 k76] ∧
        ∀ (k77 : Nat),
        H67 k77 = none →
        EvV Proofs.Try.prog
        (Builtin.append_ #[29, 29] 29
        #[Value.slice a14 k15 k16, Value.slice (at0 k77) 1 1])
        (H67.upd k77 (Obj.cells #[Value.slice a74 k75 k76] 32)) fun v78 H79 =>
        ∃ a80 k81 k82,
        v78 = Value.slice a80 k81 k82 ∧
        R9
        [Value.slice a68 k69 k70, Value.slice a80 k81 k82, Value.bool b17,
        Value.int IntKind.i64 (IntKind.i64.wrap (n18 + 1))]
        H79 ∧
        Less
        (M10
        [Value.slice a68 k69 k70, Value.slice a80 k81 k82, Value.bool b17,
        Value.int IntKind.i64 (IntKind.i64.wrap (n18 + 1))]
        H79)
        (M10
        [Value.slice a11 k12 k13, Value.slice a14 k15 k16, Value.bool b17, Value.int IntKind.i64 n18]
        H19))) ∧
        ((!b17) = !true →
        Ob (a1 ≠ none) ∧
        Ob (a1 ≠ none) ∧
        ∃ a83 k84 k85,
        Reads H19 (fldA a1 2) [Value.slice a83 k84 k85] ∧
        Ob (a83 ≠ none ∧ 0 ≤ n18 ∧ n18 < (↑k84 : Int)) ∧
        ∃ n86,
        Reads H19 (elemA a83 n18 1) [Value.int IntKind.i64 n86] ∧
        ∀ (k87 : Nat),
        H19 k87 = none →
        EvV Proofs.Try.prog (Builtin.append_ #[24, 24] 24 #[Value.slice a11 k12 k13, Value.slice (at0 k87) 1 1])
        (H19.upd k87 (Obj.cells #[Value.int IntKind.i64 n86] 3)) fun v88 H89 =>
        ∃ a90 k91 k92,
        v88 = Value.slice a90 k91 k92 ∧
        Ob (a1 ≠ none) ∧
        Ob (a1 ≠ none) ∧
        ∃ a93 k94 k95,
        Reads H89 (fldA a1 3) [Value.slice a93 k94 k95] ∧
        Ob (a93 ≠ none ∧ 0 ≤ n18 ∧ n18 < (↑k94 : Int)) ∧
        ∃ a96 k97 k98,
        Reads H89 (elemA a93 n18 1) [Value.slice a96 k97 k98] ∧
        ∀ (k99 : Nat),
        H89 k99 = none →
        EvV Proofs.Try.prog
        (Builtin.append_ #[29, 29] 29 #[Value.slice a14 k15 k16, Value.slice (at0 k99) 1 1])
        (H89.upd k99 (Obj.cells #[Value.slice a96 k97 k98] 32)) fun v100 H101 =>
        ∃ a102 k103 k104,
        v100 = Value.slice a102 k103 k104 ∧
        R9
        [Value.slice a90 k91 k92, Value.slice a102 k103 k104, Value.bool b17,
        Value.int IntKind.i64 (IntKind.i64.wrap (n18 + 1))]
        H101 ∧
        Less
        (M10
        [Value.slice a90 k91 k92, Value.slice a102 k103 k104, Value.bool b17,
        Value.int IntKind.i64 (IntKind.i64.wrap (n18 + 1))]
        H101)
        (M10 [Value.slice a11 k12 k13, Value.slice a14 k15 k16, Value.bool b17, Value.int IntKind.i64 n18] H19))) ∧
        (decide (n18 < (↑k21 : Int)) = false →
        ((!b17) = true →
        ∀ (k105 : Nat),
        H19 k105 = none →
        EvV Proofs.Try.prog (Builtin.append_ #[24, 24] 24 #[Value.slice a11 k12 k13, Value.slice (at0 k105) 1 1])
        (H19.upd k105 (Obj.cells #[Value.int IntKind.i64 n2] 3)) fun v106 H107 =>
        ∃ a108 k109 k110,
        v106 = Value.slice a108 k109 k110 ∧
        ∀ (k111 : Nat),
        H107 k111 = none →
        EvV Proofs.Try.prog (Builtin.append_ #[29, 29] 29 #[Value.slice a14 k15 k16, Value.slice (at0 k111) 1 1])
        (H107.upd k111 (Obj.cells #[Value.slice a3 k4 k5] 32)) fun v112 H113 =>
        ∃ a114 k115 k116,
        v112 = Value.slice a114 k115 k116 ∧
        Ob (a1 ≠ none) ∧
        Ob (a1 ≠ none) ∧
        ∃ H117,
        Writes H113 H117 (fldA a1 2) [Value.slice a108 k109 k110] ∧
        Ob (a1 ≠ none) ∧ Ob (a1 ≠ none) ∧ ∃ H118, Writes H117 H118 (fldA a1 3) [Value.slice a114 k115 k116] ∧ Q (Value.bool true) H118) ∧
        ((!b17) = false →
        Ob (a1 ≠ none) ∧
        Ob (a1 ≠ none) ∧
        ∃ H119,
        Writes H19 H119 (fldA a1 2) [Value.slice a11 k12 k13] ∧
        Ob (a1 ≠ none) ∧ Ob (a1 ≠ none) ∧ ∃ H120, Writes H119 H120 (fldA a1 3) [Value.slice a14 k15 k16] ∧ Q (Value.bool true) H120)))) :
    Triple Go.Proofs.Try.prog 7 ([Value.pointer a1, Value.int IntKind.i64 n2, Value.slice a3 k4 k5]).toArray H Q :=
  Triple.of_vc rTake.cx (by kernel_rfl) h

theorem rDone.vc (a1 : Option Addr) (H : PHeap) (Q : Value → PHeap → Prop)
    (h : ∃ (R2 : Rl) (M3 : Mu),
  R2 [Value.slice none 0 0, Value.int IntKind.i64 0] H ∧
    ∀ (a4 : Option Addr) (k5 k6 : Nat) (n7 : Int) (H8 : PHeap),
      R2 [Value.slice a4 k5 k6, Value.int IntKind.i64 n7] H8 →
        Ob (a1 ≠ none) ∧
        Ob (a1 ≠ none) ∧
        ∃ a9 k10 k11,
        Reads H8 (fldA a1 1) [Value.slice a9 k10 k11] ∧
        (decide (n7 < (↑k10 : Int)) = true →
        Ob (a1 ≠ none) ∧
        Ob (a1 ≠ none) ∧
        ∃ a12 k13 k14,
        Reads H8 (fldA a1 1) [Value.slice a12 k13 k14] ∧
        Ob (a12 ≠ none ∧ 0 ≤ n7 ∧ n7 < (↑k13 : Int)) ∧
        ∃ n15,
        Reads H8 (elemA a12 n7 1) [Value.int IntKind.i64 n15] ∧
        Triple Proofs.Try.prog 20 #[Value.pointer a1, Value.int IntKind.i64 n15] H8 fun v16 H17 =>
        ∃ n18,
        v16 = Value.int IntKind.i64 n18 ∧
        (decide (n18 < 0) = true → Q (Value.tuple #[Value.slice none 0 0, Value.bool false]) H17) ∧
        (decide (n18 < 0) = false →
        Ob (a1 ≠ none) ∧
        Ob (a1 ≠ none) ∧
        ∃ a19 k20 k21,
        Reads H17 (fldA a1 3) [Value.slice a19 k20 k21] ∧
        Ob (a19 ≠ none ∧ 0 ≤ n18 ∧ n18 < (↑k20 : Int)) ∧
        ∃ a22 k23 k24,
        Reads H17 (elemA a19 n18 1) [Value.slice a22 k23 k24] ∧
        ∀ (k25 : Nat),
        H17 k25 = none →
        EvV Proofs.Try.prog (Builtin.append_ #[29, 29] 29 #[Value.slice a4 k5 k6, Value.slice (at0 k25) 1 1])
        (H17.upd k25 (Obj.cells #[Value.slice a22 k23 k24] 32)) fun v26 H27 =>
        ∃ a28 k29 k30,
        v26 = Value.slice a28 k29 k30 ∧
        R2 [Value.slice a28 k29 k30, Value.int IntKind.i64 (IntKind.i64.wrap (n7 + 1))] H27 ∧
        Less (M3 [Value.slice a28 k29 k30, Value.int IntKind.i64 (IntKind.i64.wrap (n7 + 1))] H27)
        (M3 [Value.slice a4 k5 k6, Value.int IntKind.i64 n7] H8))) ∧
        (decide (n7 < (↑k10 : Int)) = false →
        Ob (a1 ≠ none) ∧
        Ob (a1 ≠ none) ∧
        ∃ b31,
        Reads H8 (fldA a1 0) [Value.bool b31] ∧
        ((!b31) = true → Q (Value.tuple #[Value.slice none 0 0, Value.bool false]) H8) ∧ ((!b31) = false → Q (Value.tuple #[Value.slice a4 k5 k6, Value.bool true]) H8))) :
    Triple Go.Proofs.Try.prog 12 ([Value.pointer a1]).toArray H Q :=
  Triple.of_vc rDone.cx (by kernel_rfl) h

theorem rPlace.vc (a1 : Option Addr) (n2 : Int) (H : PHeap) (Q : Value → PHeap → Prop)
    (h : ∃ (R3 : Rl) (M4 : Mu),
  R3 [Value.int IntKind.i64 0] H ∧
    ∀ (n5 : Int) (H6 : PHeap),
      R3 [Value.int IntKind.i64 n5] H6 →
        Ob (a1 ≠ none) ∧
        Ob (a1 ≠ none) ∧
        ∃ a7 k8 k9,
        Reads H6 (fldA a1 2) [Value.slice a7 k8 k9] ∧
        (decide (n5 < (↑k8 : Int)) = true →
        Ob (a1 ≠ none) ∧
        Ob (a1 ≠ none) ∧
        ∃ a10 k11 k12,
        Reads H6 (fldA a1 2) [Value.slice a10 k11 k12] ∧
        Ob (a10 ≠ none ∧ 0 ≤ n5 ∧ n5 < (↑k11 : Int)) ∧
        ∃ n13,
        Reads H6 (elemA a10 n5 1) [Value.int IntKind.i64 n13] ∧
        ((n13 == n2) = true → Q (Value.int IntKind.i64 n5) H6) ∧
        ((n13 == n2) = false →
        R3 [Value.int IntKind.i64 (IntKind.i64.wrap (n5 + 1))] H6 ∧
        Less (M4 [Value.int IntKind.i64 (IntKind.i64.wrap (n5 + 1))] H6) (M4 [Value.int IntKind.i64 n5] H6))) ∧
        (decide (n5 < (↑k8 : Int)) = false → Q (Value.int IntKind.i64 (-1)) H6)) :
    Triple Go.Proofs.Try.prog 20 ([Value.pointer a1, Value.int IntKind.i64 n2]).toArray H Q :=
  Triple.of_vc rPlace.cx (by kernel_rfl) h

theorem rDump.vc (a1 : Option Addr) (H : PHeap) (Q : Value → PHeap → Prop)
    (h : Ob (a1 ≠ none) ∧
  Ob (a1 ≠ none) ∧
    ∃ b2,
      Reads H (fldA a1 0) [Value.bool b2] ∧
        ∀ (k3 : Nat),
        H k3 = none →
        Ob (a1 ≠ none) ∧
        Ob (a1 ≠ none) ∧
        ∃ a4 k5 k6,
        Reads (H.upd k3 (Obj.cells #[Value.int IntKind.u8 (IntKind.u8.wrap (bif b2 then 1 else 0))] 5)) (fldA a1 1) [Value.slice a4 k5 k6] ∧
        Triple Proofs.Try.prog 28 #[Value.int IntKind.i64 1, Value.int IntKind.i64 (↑k5 : Int)] (H.upd k3 (Obj.cells #[Value.int IntKind.u8 (IntKind.u8.wrap (bif b2 then 1 else 0))] 5))
        fun v7 H8 =>
        ∃ a9 k10 k11,
        v7 = Value.slice a9 k10 k11 ∧
        EvV Proofs.Try.prog (Builtin.append_ #[32, 32] 32 #[Value.slice (at0 k3) 1 1, Value.slice a9 k10 k11]) H8 fun v12 H13 =>
        ∃ a14 k15 k16,
        v12 = Value.slice a14 k15 k16 ∧
        ∃ (R17 : Rl) (M18 : Mu),
        R17 [Value.slice a14 k15 k16, Value.int IntKind.i64 0] H13 ∧
        ∀ (a19 : Option Addr) (k20 k21 : Nat) (n22 : Int) (H23 : PHeap),
        R17 [Value.slice a19 k20 k21, Value.int IntKind.i64 n22] H23 →
        Ob (a1 ≠ none) ∧
        Ob (a1 ≠ none) ∧
        ∃ a24 k25 k26,
        Reads H23 (fldA a1 1) [Value.slice a24 k25 k26] ∧
        (decide (n22 < (↑k25 : Int)) = true →
        Ob (a1 ≠ none) ∧
        Ob (a1 ≠ none) ∧
        ∃ a27 k28 k29,
        Reads H23 (fldA a1 1) [Value.slice a27 k28 k29] ∧
        Ob (a27 ≠ none ∧ 0 ≤ n22 ∧ n22 < (↑k28 : Int)) ∧
        ∃ n30,
        Reads H23 (elemA a27 n22 1) [Value.int IntKind.i64 n30] ∧
        Triple Proofs.Try.prog 28 #[Value.int IntKind.i64 2, Value.int IntKind.i64 n30] H23 fun v31 H32 =>
        ∃ a33 k34 k35,
        v31 = Value.slice a33 k34 k35 ∧
        EvV Proofs.Try.prog (Builtin.append_ #[32, 32] 32 #[Value.slice a19 k20 k21, Value.slice a33 k34 k35]) H32 fun v36 H37 =>
        ∃ a38 k39 k40,
        v36 = Value.slice a38 k39 k40 ∧
        R17 [Value.slice a38 k39 k40, Value.int IntKind.i64 (IntKind.i64.wrap (n22 + 1))] H37 ∧
        Less (M18 [Value.slice a38 k39 k40, Value.int IntKind.i64 (IntKind.i64.wrap (n22 + 1))] H37)
        (M18 [Value.slice a19 k20 k21, Value.int IntKind.i64 n22] H23)) ∧
        (decide (n22 < (↑k25 : Int)) = false →
        Ob (a1 ≠ none) ∧
        Ob (a1 ≠ none) ∧
        ∃ a41 k42 k43,
        Reads H23 (fldA a1 2) [Value.slice a41 k42 k43] ∧
        Triple Proofs.Try.prog 28 #[Value.int IntKind.i64 1, Value.int IntKind.i64 (↑k42 : Int)] H23 fun v44 H45 =>
        ∃ a46 k47 k48,
        v44 = Value.slice a46 k47 k48 ∧
        EvV Proofs.Try.prog (Builtin.append_ #[32, 32] 32 #[Value.slice a19 k20 k21, Value.slice a46 k47 k48]) H45 fun v49 H50 =>
        ∃ a51 k52 k53,
        v49 = Value.slice a51 k52 k53 ∧
        ∃ (R54 : Rl) (M55 : Mu),
        R54 [Value.slice a51 k52 k53, Value.int IntKind.i64 0] H50 ∧
        ∀ (a56 : Option Addr) (k57 k58 : Nat) (n59 : Int) (H60 : PHeap),
        R54 [Value.slice a56 k57 k58, Value.int IntKind.i64 n59] H60 →
        Ob (a1 ≠ none) ∧
        Ob (a1 ≠ none) ∧
        ∃ a61 k62 k63,
        Reads H60 (fldA a1 2) [Value.slice a61 k62 k63] ∧
        (decide (n59 < (↑k62 : Int)) = true →
        Ob (a1 ≠ none) ∧
        Ob (a1 ≠ none) ∧
        ∃ a64 k65 k66,
        Reads H60 (fldA a1 2) [Value.slice a64 k65 k66] ∧
        Ob (a64 ≠ none ∧ 0 ≤ n59 ∧ n59 < (↑k65 : Int)) ∧
        ∃ n67,
        Reads H60 (elemA a64 n59 1) [Value.int IntKind.i64 n67] ∧
        Triple Proofs.Try.prog 28 #[Value.int IntKind.i64 2, Value.int IntKind.i64 n67] H60
        fun v68 H69 =>
        ∃ a70 k71 k72,
        v68 = Value.slice a70 k71 k72 ∧
        EvV Proofs.Try.prog
        (Builtin.append_ #[32, 32] 32 #[Value.slice a56 k57 k58, Value.slice a70 k71 k72]) H69
        fun v73 H74 =>
        ∃ a75 k76 k77,
        v73 = Value.slice a75 k76 k77 ∧
        Ob (a1 ≠ none) ∧
        Ob (a1 ≠ none) ∧
        ∃ a78 k79 k80,
        Reads H74 (fldA a1 3) [Value.slice a78 k79 k80] ∧
        Ob (a78 ≠ none ∧ 0 ≤ n59 ∧ n59 < (↑k79 : Int)) ∧
        ∃ a81 k82 k83,
        Reads H74 (elemA a78 n59 1) [Value.slice a81 k82 k83] ∧
        Triple Proofs.Try.prog 29 #[Value.slice a81 k82 k83] H74
        fun v84 H85 =>
        ∃ a86 k87 k88,
        v84 = Value.slice a86 k87 k88 ∧
        EvV Proofs.Try.prog
        (Builtin.append_ #[32, 32] 32
        #[Value.slice a75 k76 k77, Value.slice a86 k87 k88])
        H85 fun v89 H90 =>
        ∃ a91 k92 k93,
        v89 = Value.slice a91 k92 k93 ∧
        R54
        [Value.slice a91 k92 k93,
        Value.int IntKind.i64
        (IntKind.i64.wrap (n59 + 1))]
        H90 ∧
        Less
        (M55
        [Value.slice a91 k92 k93,
        Value.int IntKind.i64
        (IntKind.i64.wrap (n59 + 1))]
        H90)
        (M55
        [Value.slice a56 k57 k58,
        Value.int IntKind.i64 n59]
        H60)) ∧
        (decide (n59 < (↑k62 : Int)) = false → Q (Value.slice a56 k57 k58) H60))) :
    Triple Go.Proofs.Try.prog 18 ([Value.pointer a1]).toArray H Q :=
  Triple.of_vc rDump.cx (by kernel_rfl) h

theorem nNum.vc (n1 : Int) (n2 : Int) (H : PHeap) (Q : Value → PHeap → Prop)
    (h : Triple Proofs.Try.prog 33 #[Value.int IntKind.i64 n1] H fun v3 H4 =>
  ∃ n5,
    v3 = Value.int IntKind.i64 n5 ∧
      EvV Proofs.Try.prog (Instr.makeSlice 32 (Value.int IntKind.i64 n5) (Value.int IntKind.i64 n5)) H4 fun v6 H7 =>
        ∃ a8 k9 k10,
        v6 = Value.slice a8 k9 k10 ∧
        ∃ (R11 : Rl) (M12 : Mu),
        R11 [Value.int IntKind.i64 (bif decide (n2 < 0) then 0 else n2), Value.int IntKind.i64 (IntKind.i64.wrap (n5 - 1))] H7 ∧
        ∀ (n13 n14 : Int) (H15 : PHeap),
        R11 [Value.int IntKind.i64 n13, Value.int IntKind.i64 n14] H15 →
        (decide (n14 ≥ 0) = true →
        Ob ((256 : Int) ≠ 0) ∧
        Ob (a8 ≠ none ∧ 0 ≤ n14 ∧ n14 < (↑k9 : Int)) ∧
        ∃ H16,
        Writes H15 H16 (elemA a8 n14 1) [Value.int IntKind.u8 (IntKind.u8.wrap (n13.tmod 256))] ∧
        Ob ((256 : Int) ≠ 0) ∧
        R11 [Value.int IntKind.i64 (IntKind.i64.wrap (n13.tdiv 256)), Value.int IntKind.i64 (IntKind.i64.wrap (n14 - 1))] H16 ∧
        Less (M12 [Value.int IntKind.i64 (IntKind.i64.wrap (n13.tdiv 256)), Value.int IntKind.i64 (IntKind.i64.wrap (n14 - 1))] H16)
        (M12 [Value.int IntKind.i64 n13, Value.int IntKind.i64 n14] H15)) ∧
        (decide (n14 ≥ 0) = false → Q (Value.slice a8 k9 k10) H15)) :
    Triple Go.Proofs.Try.prog 28 ([Value.int IntKind.i64 n1, Value.int IntKind.i64 n2]).toArray H Q :=
  Triple.of_vc nNum.cx (by kernel_rfl) h

theorem nText.vc (a1 : Option Addr) (k2 : Nat) (k3 : Nat) (H : PHeap) (Q : Value → PHeap → Prop)
    (h : (decide ((↑k2 : Int) > 255) = true →
    Ob ((0 : Int) ≤ 0 ∧ (0 : Int) ≤ 255 ∧ 255 ≤ (↑k3 : Int)) ∧
      ∀ (k4 : Nat),
        H k4 = none →
        EvV Proofs.Try.prog (Builtin.append_ #[32, 32] 32 #[Value.slice (at0 k4) 1 1, Value.slice (slA a1 0 k3 1) (Int.toNat 255 - Int.toNat 0) (k3 - Int.toNat 0)])
        (H.upd k4 (Obj.cells #[Value.int IntKind.u8 (IntKind.u8.wrap (↑(Int.toNat 255 - Int.toNat 0) : Int))] 5)) fun v5 H6 =>
        ∃ a7 k8 k9, v5 = Value.slice a7 k8 k9 ∧ Q (Value.slice a7 k8 k9) H6) ∧
  (decide ((↑k2 : Int) > 255) = false →
    ∀ (k10 : Nat),
      H k10 = none →
        EvV Proofs.Try.prog (Builtin.append_ #[32, 32] 32 #[Value.slice (at0 k10) 1 1, Value.slice a1 k2 k3])
        (H.upd k10 (Obj.cells #[Value.int IntKind.u8 (IntKind.u8.wrap (↑k2 : Int))] 5)) fun v11 H12 => ∃ a13 k14 k15, v11 = Value.slice a13 k14 k15 ∧ Q (Value.slice a13 k14 k15) H12)) :
    Triple Go.Proofs.Try.prog 29 ([Value.slice a1 k2 k3]).toArray H Q :=
  Triple.of_vc nText.cx (by kernel_rfl) h

theorem nWidth.vc (n1 : Int) (H : PHeap) (Q : Value → PHeap → Prop)
    (h : (decide (n1 < 1) = true → Q (Value.int IntKind.i64 1) H) ∧
  (decide (n1 < 1) = false → (decide (n1 > 4) = true → Q (Value.int IntKind.i64 4) H) ∧ (decide (n1 > 4) = false → Q (Value.int IntKind.i64 n1) H))) :
    Triple Go.Proofs.Try.prog 33 ([Value.int IntKind.i64 n1]).toArray H Q :=
  Triple.of_vc nWidth.cx (by kernel_rfl) h

theorem sameL.vc (a1 : Option Addr) (k2 : Nat) (k3 : Nat) (a4 : Option Addr) (k5 : Nat) (k6 : Nat) (H : PHeap) (Q : Value → PHeap → Prop)
    (h : (((↑k2 : Int) != (↑k5 : Int)) = true → Q (Value.bool false) H) ∧
  (((↑k2 : Int) != (↑k5 : Int)) = false →
    ∃ (R7 : Rl) (M8 : Mu),
      R7 [Value.int IntKind.i64 0] H ∧
        ∀ (n9 : Int) (H10 : PHeap),
        R7 [Value.int IntKind.i64 n9] H10 →
        (decide (n9 < (↑k2 : Int)) = true →
        ∃ H11,
        Vx.Sub H11 H10 ∧
        Ob (a1 ≠ none ∧ 0 ≤ n9 ∧ n9 < (↑k2 : Int)) ∧
        ∃ a12 k13 k14,
        Reads H11 (elemA a1 n9 1) [Value.slice a12 k13 k14] ∧
        Ob (a4 ≠ none ∧ 0 ≤ n9 ∧ n9 < (↑k5 : Int)) ∧
        ∃ a15 k16 k17,
        Reads H11 (elemA a4 n9 1) [Value.slice a15 k16 k17] ∧
        Triple Proofs.Try.prog 16 #[Value.slice a12 k13 k14, Value.slice a15 k16 k17] H10 fun v18 H19 =>
        ∃ b20,
        v18 = Value.bool b20 ∧
        ((!b20) = true → Q (Value.bool false) H19) ∧
        ((!b20) = false →
        R7 [Value.int IntKind.i64 (IntKind.i64.wrap (n9 + 1))] H19 ∧
        Less (M8 [Value.int IntKind.i64 (IntKind.i64.wrap (n9 + 1))] H19) (M8 [Value.int IntKind.i64 n9] H10))) ∧
        (decide (n9 < (↑k2 : Int)) = false → Q (Value.bool true) H10))) :
    Triple Go.Proofs.Try.prog 13 ([Value.slice a1 k2 k3, Value.slice a4 k5 k6]).toArray H Q :=
  Triple.of_vc sameL.cx (by kernel_rfl) h

theorem sameB.vc (a1 : Option Addr) (k2 : Nat) (k3 : Nat) (a4 : Option Addr) (k5 : Nat) (k6 : Nat) (H : PHeap) (Q : Value → PHeap → Prop)
    (h : (((↑k2 : Int) != (↑k5 : Int)) = true → Q (Value.bool false) H) ∧
  (((↑k2 : Int) != (↑k5 : Int)) = false →
    ∃ (R7 : Rl) (M8 : Mu),
      R7 [Value.int IntKind.i64 0] H ∧
        ∀ (n9 : Int) (H10 : PHeap),
        R7 [Value.int IntKind.i64 n9] H10 →
        (decide (n9 < (↑k2 : Int)) = true →
        ∃ H11,
        Vx.Sub H11 H10 ∧
        Ob (a1 ≠ none ∧ 0 ≤ n9 ∧ n9 < (↑k2 : Int)) ∧
        ∃ n12,
        Reads H11 (elemA a1 n9 1) [Value.int IntKind.u8 n12] ∧
        Ob (a4 ≠ none ∧ 0 ≤ n9 ∧ n9 < (↑k5 : Int)) ∧
        ∃ n13,
        Reads H11 (elemA a4 n9 1) [Value.int IntKind.u8 n13] ∧
        ((n12 != n13) = true → Q (Value.bool false) H10) ∧
        ((n12 != n13) = false →
        R7 [Value.int IntKind.i64 (IntKind.i64.wrap (n9 + 1))] H10 ∧
        Less (M8 [Value.int IntKind.i64 (IntKind.i64.wrap (n9 + 1))] H10) (M8 [Value.int IntKind.i64 n9] H10))) ∧
        (decide (n9 < (↑k2 : Int)) = false → Q (Value.bool true) H10))) :
    Triple Go.Proofs.Try.prog 16 ([Value.slice a1 k2 k3, Value.slice a4 k5 k6]).toArray H Q :=
  Triple.of_vc sameB.cx (by kernel_rfl) h

theorem sameInts.vc (a1 : Option Addr) (k2 : Nat) (k3 : Nat) (a4 : Option Addr) (k5 : Nat) (k6 : Nat) (H : PHeap) (Q : Value → PHeap → Prop)
    (h : (((↑k2 : Int) != (↑k5 : Int)) = true → Q (Value.bool false) H) ∧
  (((↑k2 : Int) != (↑k5 : Int)) = false →
    ∃ (R7 : Rl) (M8 : Mu),
      R7 [Value.int IntKind.i64 0] H ∧
        ∀ (n9 : Int) (H10 : PHeap),
        R7 [Value.int IntKind.i64 n9] H10 →
        (decide (n9 < (↑k2 : Int)) = true →
        ∃ H11,
        Vx.Sub H11 H10 ∧
        Ob (a1 ≠ none ∧ 0 ≤ n9 ∧ n9 < (↑k2 : Int)) ∧
        ∃ n12,
        Reads H11 (elemA a1 n9 1) [Value.int IntKind.i64 n12] ∧
        Ob (a4 ≠ none ∧ 0 ≤ n9 ∧ n9 < (↑k5 : Int)) ∧
        ∃ n13,
        Reads H11 (elemA a4 n9 1) [Value.int IntKind.i64 n13] ∧
        ((n12 != n13) = true → Q (Value.bool false) H10) ∧
        ((n12 != n13) = false →
        R7 [Value.int IntKind.i64 (IntKind.i64.wrap (n9 + 1))] H10 ∧
        Less (M8 [Value.int IntKind.i64 (IntKind.i64.wrap (n9 + 1))] H10) (M8 [Value.int IntKind.i64 n9] H10))) ∧
        (decide (n9 < (↑k2 : Int)) = false → Q (Value.bool true) H10))) :
    Triple Go.Proofs.Try.prog 14 ([Value.slice a1 k2 k3, Value.slice a4 k5 k6]).toArray H Q :=
  Triple.of_vc sameInts.cx (by kernel_rfl) h

end Go.Vc
