/- What is to be shown of each function, in its normal form. Printed by a program of this session's, checked by the kernel. -/
import Derived.Test.YtllbdocjgdnofaaVxN
import Derived.Test.YtllbdocjgdnofaaProg
set_option linter.unusedVariables false
set_option maxRecDepth 100000
namespace Go.Vc
open Go.Vx Go
def pAfter.cx : Cx := ⟨[], [], [], []⟩
def pNames.cx : Cx := ⟨[], [], [], []⟩
def pSus.cx : Cx := ⟨[], [], [], []⟩
def pEnough.cx : Cx := ⟨[], [(5, [7, 20], [])], [], []⟩
def pTurn.cx : Cx := ⟨[5, 6], [(7, [21], []), (15, [51], [])], [], []⟩
def pTurn1.cx : Cx := ⟨[], [], [], []⟩
def pTurn2.cx : Cx := ⟨[], [], [], []⟩
def listed.cx : Cx := ⟨[], [], [], []⟩
def listed1.cx : Cx := ⟨[], [], [], []⟩
def state.cx : Cx := ⟨[], [], [], []⟩
def whole.cx : Cx := ⟨[], [], [], []⟩
def maxS.cx : Cx := ⟨[], [(5, [3, 4], [])], [], []⟩
def delS.cx : Cx := ⟨[], [(5, [5, 6], [])], [], []⟩
def idxFS.cx : Cx := ⟨[], [(2, [8], [])], [], []⟩
def cloneS.cx : Cx := ⟨[], [], [], []⟩

theorem pAfter.vc (a1 : Option Addr) (H : PHeap) (Q : Value → PHeap → Prop)
    (h : (a1.isNone = true → Q (Value.string { data := #[] }) H) ∧ (a1.isNone = false → Ob (a1 ≠ none) ∧ Ob (a1 ≠ none) ∧ ∃ s2, Reads H (fldA a1 1) [Value.string s2] ∧ Q (Value.string s2) H)) :
    Triple Go.Proofs.Try.prog 11 ([Value.pointer a1]).toArray H Q :=
  Triple.of_vc pAfter.cx (by kernel_rfl) h

theorem pNames.vc (a1 : Option Addr) (H : PHeap) (Q : Value → PHeap → Prop)
    (h : (a1.isNone = true → Q (Value.slice none 0 0) H) ∧
  (a1.isNone = false →
    Ob (a1 ≠ none) ∧
      Ob (a1 ≠ none) ∧
        ∃ a2 k3 k4, Reads H (fldA a1 0) [Value.slice a2 k3 k4] ∧ Triple Proofs.Try.prog 30 #[Value.slice a2 k3 k4] H fun v5 H6 => ∃ a7 k8 k9, v5 = Value.slice a7 k8 k9 ∧ Q (Value.slice a7 k8 k9) H6)) :
    Triple Go.Proofs.Try.prog 14 ([Value.pointer a1]).toArray H Q :=
  Triple.of_vc pNames.cx (by kernel_rfl) h

theorem pSus.vc (a1 : Option Addr) (H : PHeap) (Q : Value → PHeap → Prop)
    (h : (a1.isNone = true → Q (Value.slice none 0 0) H) ∧
  (a1.isNone = false →
    Ob (a1 ≠ none) ∧
      Ob (a1 ≠ none) ∧
        ∃ a2 k3 k4, Reads H (fldA a1 2) [Value.slice a2 k3 k4] ∧ Triple Proofs.Try.prog 39 #[Value.slice a2 k3 k4] H fun v5 H6 => ∃ a7 k8 k9, v5 = Value.slice a7 k8 k9 ∧ Q (Value.slice a7 k8 k9) H6)) :
    Triple Go.Proofs.Try.prog 20 ([Value.pointer a1]).toArray H Q :=
  Triple.of_vc pSus.cx (by kernel_rfl) h

theorem pEnough.vc (a1 : Option Addr) (n2 : Int) (n3 : Int) (n4 : Int) (n5 : Int) (n6 : Int) (n7 : Int) (a8 : Option Addr) (k9 : Nat) (k10 : Nat) (H : PHeap) (Q : Value → PHeap → Prop)
    (h : (a1.isNone = false →
    Triple Proofs.Try.prog 33 #[Value.agg #[Value.int IntKind.i64 n2, Value.int IntKind.i64 n3, Value.int IntKind.i64 n4, Value.int IntKind.i64 n5, Value.int IntKind.i64 n6, Value.int IntKind.i64 n7]]
      H fun v11 H12 =>
      ∃ b13,
        v11 = Value.bool b13 ∧
        ((!b13) = true → Q (Value.bool false) H12) ∧
        ((!b13) = false →
        Triple Proofs.Try.prog 24 #[Value.slice a8 k9 k10] H12 fun v14 H15 =>
        ∃ a16 k17 k18,
        v14 = Value.slice a16 k17 k18 ∧
        ∃ (R19 : Rl) (M20 : Mu),
        R19 [Value.int IntKind.i64 0, Value.int IntKind.i64 0] H15 ∧
        ∀ (n21 n22 : Int) (H23 : PHeap),
        R19 [Value.int IntKind.i64 n21, Value.int IntKind.i64 n22] H23 →
        (decide (n22 < (↑k17 : Int)) = true →
        Ob (a16 ≠ none ∧ 0 ≤ n22 ∧ n22 < (↑k17 : Int)) ∧
        ∃ n24 n25 n26 n27 s28 n29 n30 n31 n32 n33 a34 k35 k36 a37 k38 k39 a40 k41 k42,
        Reads H23 (elemA a16 n22 13)
        [Value.int IntKind.i64 n24, Value.int IntKind.i64 n25, Value.int IntKind.i64 n26, Value.int IntKind.i64 n27, Value.string s28, Value.int IntKind.i64 n29,
        Value.int IntKind.i64 n30, Value.int IntKind.i64 n31, Value.int IntKind.i64 n32, Value.int IntKind.i64 n33, Value.slice a34 k35 k36, Value.slice a37 k38 k39,
        Value.slice a40 k41 k42] ∧
        Triple Proofs.Try.prog 25
        #[Value.agg
        #[Value.int IntKind.i64 n24, Value.int IntKind.i64 n25, Value.int IntKind.i64 n26, Value.int IntKind.i64 n27, Value.string s28, Value.int IntKind.i64 n29,
        Value.int IntKind.i64 n30, Value.int IntKind.i64 n31, Value.int IntKind.i64 n32, Value.int IntKind.i64 n33, Value.slice a34 k35 k36,
        Value.slice a37 k38 k39, Value.slice a40 k41 k42]]
        H23 fun v43 H44 =>
        ∃ n45,
        v43 = Value.int IntKind.i64 n45 ∧
        R19 [Value.int IntKind.i64 (bif n45 == 1 then IntKind.i64.wrap (n21 + 1) else n21), Value.int IntKind.i64 (IntKind.i64.wrap (n22 + 1))] H44 ∧
        Less (M20 [Value.int IntKind.i64 (bif n45 == 1 then IntKind.i64.wrap (n21 + 1) else n21), Value.int IntKind.i64 (IntKind.i64.wrap (n22 + 1))] H44)
        (M20 [Value.int IntKind.i64 n21, Value.int IntKind.i64 n22] H23)) ∧
        (decide (n22 < (↑k17 : Int)) = false →
        Triple Proofs.Try.prog 34
        #[Value.agg
        #[Value.int IntKind.i64 n2, Value.int IntKind.i64 n3, Value.int IntKind.i64 n4, Value.int IntKind.i64 n5, Value.int IntKind.i64 n6, Value.int IntKind.i64 n7]]
        H23 fun v46 H47 => ∃ n48, v46 = Value.int IntKind.i64 n48 ∧ Q (Value.bool (decide (n21 ≥ n48))) H47))) ∧
  (a1.isNone = !false → Q (Value.bool false) H)) :
    Triple Go.Proofs.Try.prog 16 ([Value.pointer a1, Value.agg #[Value.int IntKind.i64 n2, Value.int IntKind.i64 n3, Value.int IntKind.i64 n4, Value.int IntKind.i64 n5, Value.int IntKind.i64 n6, Value.int IntKind.i64 n7],
  Value.slice a8 k9 k10]).toArray H Q :=
  Triple.of_vc pEnough.cx (by kernel_rfl) h

theorem pTurn.vc (a1 : Option Addr) (a2 : Option Addr) (k3 : Nat) (k4 : Nat) (H : PHeap) (Q : Value → PHeap → Prop)
    (h : (a1.isNone = true → Q (Value.bool false) H) ∧
  (a1.isNone = false →
    ∀ (k5 : Nat),
      H k5 = none →
        ∀ (k6 : Nat),
        H.upd k5 (Obj.cells #[Value.string { data := #[] }] 9) k6 = none →
        ∃ H7,
        Writes ((H.upd k5 (Obj.cells #[Value.string { data := #[] }] 9)).upd k6 (Obj.cells #[Value.bool false] 4)) H7 (at0 k5) [Value.string { data := #[] }] ∧
        ∃ H8,
        Writes H7 H8 (at0 k6) [Value.bool true] ∧
        Triple Proofs.Try.prog 24 #[Value.slice a2 k3 k4] H8 fun v9 H10 =>
        ∃ a11 k12 k13,
        v9 = Value.slice a11 k12 k13 ∧
        ∃ (R14 : Rl) (M15 : Mu),
        R14 [Value.int IntKind.i64 0] H10 ∧
        ∀ (n16 : Int) (H17 : PHeap),
        R14 [Value.int IntKind.i64 n16] H17 →
        (decide (n16 < (↑k12 : Int)) = true →
        Ob (a11 ≠ none ∧ 0 ≤ n16 ∧ n16 < (↑k12 : Int)) ∧
        ∃ n18 n19 n20 n21 s22 n23 n24 n25 n26 n27 a28 k29 k30 a31 k32 k33 a34 k35 k36,
        Reads H17 (elemA a11 n16 13)
        [Value.int IntKind.i64 n18, Value.int IntKind.i64 n19, Value.int IntKind.i64 n20, Value.int IntKind.i64 n21, Value.string s22, Value.int IntKind.i64 n23,
        Value.int IntKind.i64 n24, Value.int IntKind.i64 n25, Value.int IntKind.i64 n26, Value.int IntKind.i64 n27, Value.slice a28 k29 k30,
        Value.slice a31 k32 k33, Value.slice a34 k35 k36] ∧
        Triple Proofs.Try.prog 25
        #[Value.agg
        #[Value.int IntKind.i64 n18, Value.int IntKind.i64 n19, Value.int IntKind.i64 n20, Value.int IntKind.i64 n21, Value.string s22,
        Value.int IntKind.i64 n23, Value.int IntKind.i64 n24, Value.int IntKind.i64 n25, Value.int IntKind.i64 n26, Value.int IntKind.i64 n27,
        Value.slice a28 k29 k30, Value.slice a31 k32 k33, Value.slice a34 k35 k36]]
        H17 fun v37 H38 =>
        ∃ n39,
        v37 = Value.int IntKind.i64 n39 ∧
        ((n39 == 2) = true →
        ∃ H40,
        Vx.Sub H40 H38 ∧
        Ob (a1 ≠ none) ∧
        Ob (a1 ≠ none) ∧
        ∃ a41 k42 k43,
        Reads H40 (fldA a1 2) [Value.slice a41 k42 k43] ∧
        ∀ (k44 : Nat),
        H38 k44 = none →
        Vx.Sub H40 (H38.upd k44 (Obj.cells #[Value.int IntKind.i64 n19] 3)) ∧
        EvV Proofs.Try.prog (Builtin.append_ #[29, 29] 29 #[Value.slice a41 k42 k43, Value.slice (at0 k44) 1 1])
        (H38.upd k44 (Obj.cells #[Value.int IntKind.i64 n19] 3)) fun v45 H46 =>
        ∃ a47 k48 k49,
        v45 = Value.slice a47 k48 k49 ∧
        Triple Proofs.Try.prog 26 #[Value.slice a47 k48 k49, Value.slice none 0 0] H46 fun v50 H51 =>
        ∃ a52 k53 k54,
        v50 = Value.slice a52 k53 k54 ∧
        Ob (a1 ≠ none) ∧
        Ob (a1 ≠ none) ∧
        ∃ H55,
        Writes H51 H55 (fldA a1 2) [Value.slice a52 k53 k54] ∧
        Triple Proofs.Try.prog 27
        #[Value.agg
        #[Value.int IntKind.i64 n18, Value.int IntKind.i64 n19, Value.int IntKind.i64 n20,
        Value.int IntKind.i64 n21, Value.string s22, Value.int IntKind.i64 n23, Value.int IntKind.i64 n24,
        Value.int IntKind.i64 n25, Value.int IntKind.i64 n26, Value.int IntKind.i64 n27,
        Value.slice a28 k29 k30, Value.slice a31 k32 k33, Value.slice a34 k35 k36]]
        H55 fun v56 H57 =>
        ∃ b58,
        v56 = Value.bool b58 ∧
        ((!b58) = true →
        Triple Proofs.Try.prog 28 #[Value.slice a31 k32 k33] H57 fun v59 H60 =>
        ∃ s61,
        v59 = Value.string s61 ∧
        Triple Proofs.Try.prog 23
        #[Value.string s61, Value.pointer (at0 k6),
        Value.pointer (at0 k5)]
        H60 fun v62 H63 =>
        v62 = Value.tuple #[] ∧
        R14 [Value.int IntKind.i64 (IntKind.i64.wrap (n16 + 1))] H63 ∧
        Less (M15 [Value.int IntKind.i64 (IntKind.i64.wrap (n16 + 1))] H63)
        (M15 [Value.int IntKind.i64 n16] H17)) ∧
        ((!b58) = false →
        R14 [Value.int IntKind.i64 (IntKind.i64.wrap (n16 + 1))] H57 ∧
        Less (M15 [Value.int IntKind.i64 (IntKind.i64.wrap (n16 + 1))] H57)
        (M15 [Value.int IntKind.i64 n16] H17))) ∧
        ((n39 == 2) = false →
        Triple Proofs.Try.prog 27
        #[Value.agg
        #[Value.int IntKind.i64 n18, Value.int IntKind.i64 n19, Value.int IntKind.i64 n20, Value.int IntKind.i64 n21, Value.string s22,
        Value.int IntKind.i64 n23, Value.int IntKind.i64 n24, Value.int IntKind.i64 n25, Value.int IntKind.i64 n26, Value.int IntKind.i64 n27,
        Value.slice a28 k29 k30, Value.slice a31 k32 k33, Value.slice a34 k35 k36]]
        H38 fun v64 H65 =>
        ∃ b66,
        v64 = Value.bool b66 ∧
        ((!b66) = true →
        Triple Proofs.Try.prog 28 #[Value.slice a31 k32 k33] H65 fun v67 H68 =>
        ∃ s69,
        v67 = Value.string s69 ∧
        Triple Proofs.Try.prog 23
        #[Value.string s69, Value.pointer (at0 k6), Value.pointer (at0 k5)] H68
        fun v70 H71 =>
        v70 = Value.tuple #[] ∧
        R14 [Value.int IntKind.i64 (IntKind.i64.wrap (n16 + 1))] H71 ∧
        Less (M15 [Value.int IntKind.i64 (IntKind.i64.wrap (n16 + 1))] H71) (M15 [Value.int IntKind.i64 n16] H17)) ∧
        ((!b66) = false →
        R14 [Value.int IntKind.i64 (IntKind.i64.wrap (n16 + 1))] H65 ∧
        Less (M15 [Value.int IntKind.i64 (IntKind.i64.wrap (n16 + 1))] H65) (M15 [Value.int IntKind.i64 n16] H17)))) ∧
        (decide (n16 < (↑k12 : Int)) = false →
        ∃ (R72 : Rl) (M73 : Mu),
        R72 [Value.int IntKind.i64 0] H17 ∧
        ∀ (n74 : Int) (H75 : PHeap),
        R72 [Value.int IntKind.i64 n74] H75 →
        (decide (n74 < (↑k12 : Int)) = true →
        Ob (a11 ≠ none ∧ 0 ≤ n74 ∧ n74 < (↑k12 : Int)) ∧
        ∃ n76 n77 n78 n79 s80 n81 n82 n83 n84 n85 a86 k87 k88 a89 k90 k91 a92 k93 k94,
        Reads H75 (elemA a11 n74 13)
        [Value.int IntKind.i64 n76, Value.int IntKind.i64 n77, Value.int IntKind.i64 n78, Value.int IntKind.i64 n79, Value.string s80,
        Value.int IntKind.i64 n81, Value.int IntKind.i64 n82, Value.int IntKind.i64 n83, Value.int IntKind.i64 n84, Value.int IntKind.i64 n85,
        Value.slice a86 k87 k88, Value.slice a89 k90 k91, Value.slice a92 k93 k94] ∧
        Triple Proofs.Try.prog 30 #[Value.slice a89 k90 k91] H75 fun v95 H96 =>
        ∃ a97 k98 k99,
        v95 = Value.slice a97 k98 k99 ∧
        Triple Proofs.Try.prog 29
        #[Value.slice a97 k98 k99,
        Value.func (Fn.func 31) #[] #[Value.pointer (at0 k6), Value.pointer (at0 k5)]]
        H96 fun v100 H101 =>
        ∃ a102 k103 k104,
        v100 = Value.slice a102 k103 k104 ∧
        Ob (a1 ≠ none) ∧
        Ob (a1 ≠ none) ∧
        ∃ a105 k106 k107,
        Reads H101 (fldA a1 0) [Value.slice a105 k106 k107] ∧
        ∀ (k108 : Nat),
        H101 k108 = none →
        Triple Proofs.Try.prog 32 #[Value.slice (at0 k108) 2 2]
        (H101.upd k108 (Obj.cells #[Value.slice a105 k106 k107, Value.slice a102 k103 k104] 24)) fun v109 H110 =>
        ∃ a111 k112 k113,
        v109 = Value.slice a111 k112 k113 ∧
        Ob (a1 ≠ none) ∧
        Ob (a1 ≠ none) ∧
        ∃ H114,
        Writes H110 H114 (fldA a1 0) [Value.slice a111 k112 k113] ∧
        R72 [Value.int IntKind.i64 (IntKind.i64.wrap (n74 + 1))] H114 ∧
        Less (M73 [Value.int IntKind.i64 (IntKind.i64.wrap (n74 + 1))] H114)
        (M73 [Value.int IntKind.i64 n74] H75)) ∧
        (decide (n74 < (↑k12 : Int)) = false →
        ∃ b115,
        Reads H75 (at0 k6) [Value.bool b115] ∧
        ((!b115) = true →
        ∃ s116,
        Reads H75 (at0 k5) [Value.string s116] ∧
        Ob (a1 ≠ none) ∧
        Ob (a1 ≠ none) ∧
        ∃ H117,
        Writes H75 H117 (fldA a1 1) [Value.string s116] ∧
        ∃ b118, Reads H117 (at0 k6) [Value.bool b118] ∧ Q (Value.bool b118) H117) ∧
        ((!b115) = false → ∃ b119, Reads H75 (at0 k6) [Value.bool b119] ∧ Q (Value.bool b119) H75))))) :
    Triple Go.Proofs.Try.prog 12 ([Value.pointer a1, Value.slice a2 k3 k4]).toArray H Q :=
  Triple.of_vc pTurn.cx (by kernel_rfl) h

theorem pTurn1.vc (s1 : ByteArray) (a2 : Option Addr) (a3 : Option Addr) (H : PHeap) (Q : Value → PHeap → Prop)
    (h : ∃ b4,
  Reads H a2 [Value.bool b4] ∧
    (b4 = false →
        ∃ s5,
        Reads H a3 [Value.string s5] ∧
        Triple Proofs.Try.prog 22 #[Value.string s1, Value.string s5] H fun v6 H7 =>
        ∃ b8,
        v6 = Value.bool b8 ∧
        (b8 = true → ∃ H9, Writes H7 H9 a3 [Value.string s1] ∧ ∃ H10, Writes H9 H10 a2 [Value.bool false] ∧ Q (Value.tuple #[]) H10) ∧ (b8 = false → Q (Value.tuple #[]) H7)) ∧
      (b4 = !false → ∃ H11, Writes H H11 a3 [Value.string s1] ∧ ∃ H12, Writes H11 H12 a2 [Value.bool false] ∧ Q (Value.tuple #[]) H12)) :
    Triple Go.Proofs.Try.prog 23 ([Value.string s1, Value.pointer a2, Value.pointer a3]).toArray H Q :=
  Triple.of_vc pTurn1.cx (by kernel_rfl) h

theorem pTurn2.vc (s1 : ByteArray) (a2 : Option Addr) (a3 : Option Addr) (H : PHeap) (Q : Value → PHeap → Prop)
    (h : ∃ b4,
  Reads H a2 [Value.bool b4] ∧
    ((!b4) = true → ∃ s5, Reads H a3 [Value.string s5] ∧ Triple Proofs.Try.prog 22 #[Value.string s5, Value.string s1] H fun v6 H7 => ∃ b8, v6 = Value.bool b8 ∧ Q (Value.bool b8) H7) ∧
      ((!b4) = !true → Q (Value.bool false) H)) :
    Triple Go.Proofs.Try.prog 31 ([Value.string s1, Value.pointer a2, Value.pointer a3]).toArray H Q :=
  Triple.of_vc pTurn2.cx (by kernel_rfl) h

theorem listed.vc (a1 : Option Addr) (k2 : Nat) (k3 : Nat) (H : PHeap) (Q : Value → PHeap → Prop)
    (h : Triple Proofs.Try.prog 41 #[Value.slice a1 k2 k3] H fun v4 H5 =>
  ∃ a6 k7 k8,
    v4 = Value.slice a6 k7 k8 ∧
      Triple Proofs.Try.prog 40 #[Value.slice a6 k7 k8, Value.func (Fn.func 42) #[] #[]] H5 fun v9 H10 => ∃ a11 k12 k13, v9 = Value.slice a11 k12 k13 ∧ Q (Value.slice a11 k12 k13) H10) :
    Triple Go.Proofs.Try.prog 24 ([Value.slice a1 k2 k3]).toArray H Q :=
  Triple.of_vc listed.cx (by kernel_rfl) h

theorem listed1.vc (n1 : Int) (n2 : Int) (n3 : Int) (n4 : Int) (s5 : ByteArray) (n6 : Int) (n7 : Int) (n8 : Int) (n9 : Int) (n10 : Int) (a11 : Option Addr) (k12 : Nat) (k13 : Nat) (a14 : Option Addr) (k15 : Nat) (k16 : Nat) (a17 : Option Addr) (k18 : Nat) (k19 : Nat) (H : PHeap) (Q : Value → PHeap → Prop)
    (h : Q (Value.bool (n1 != 20)) H) :
    Triple Go.Proofs.Try.prog 42 ([Value.agg
    #[Value.int IntKind.i64 n1, Value.int IntKind.i64 n2, Value.int IntKind.i64 n3, Value.int IntKind.i64 n4, Value.string s5, Value.int IntKind.i64 n6, Value.int IntKind.i64 n7,
      Value.int IntKind.i64 n8, Value.int IntKind.i64 n9, Value.int IntKind.i64 n10, Value.slice a11 k12 k13, Value.slice a14 k15 k16, Value.slice a17 k18 k19]]).toArray H Q :=
  Triple.of_vc listed1.cx (by kernel_rfl) h

theorem state.vc (n1 : Int) (n2 : Int) (n3 : Int) (n4 : Int) (s5 : ByteArray) (n6 : Int) (n7 : Int) (n8 : Int) (n9 : Int) (n10 : Int) (a11 : Option Addr) (k12 : Nat) (k13 : Nat) (a14 : Option Addr) (k15 : Nat) (k16 : Nat) (a17 : Option Addr) (k18 : Nat) (k19 : Nat) (H : PHeap) (Q : Value → PHeap → Prop)
    (h : (((↑k12 : Int) == 0) = true → Q (Value.int IntKind.i64 0) H) ∧
  (((↑k12 : Int) == 0) = false → Ob (a11 ≠ none ∧ (0 : Int) ≤ 0 ∧ 0 < (↑k12 : Int)) ∧ ∃ n20, Reads H (elemA a11 0 1) [Value.int IntKind.i64 n20] ∧ Q (Value.int IntKind.i64 n20) H)) :
    Triple Go.Proofs.Try.prog 25 ([Value.agg
    #[Value.int IntKind.i64 n1, Value.int IntKind.i64 n2, Value.int IntKind.i64 n3, Value.int IntKind.i64 n4, Value.string s5, Value.int IntKind.i64 n6, Value.int IntKind.i64 n7,
      Value.int IntKind.i64 n8, Value.int IntKind.i64 n9, Value.int IntKind.i64 n10, Value.slice a11 k12 k13, Value.slice a14 k15 k16, Value.slice a17 k18 k19]]).toArray H Q :=
  Triple.of_vc state.cx (by kernel_rfl) h

theorem whole.vc (n1 : Int) (n2 : Int) (n3 : Int) (n4 : Int) (s5 : ByteArray) (n6 : Int) (n7 : Int) (n8 : Int) (n9 : Int) (n10 : Int) (a11 : Option Addr) (k12 : Nat) (k13 : Nat) (a14 : Option Addr) (k15 : Nat) (k16 : Nat) (a17 : Option Addr) (k18 : Nat) (k19 : Nat) (H : PHeap) (Q : Value → PHeap → Prop)
    (h : Q (Value.bool (bif n10 == 1 then true else (↑k15 : Int) == 0)) H) :
    Triple Go.Proofs.Try.prog 27 ([Value.agg
    #[Value.int IntKind.i64 n1, Value.int IntKind.i64 n2, Value.int IntKind.i64 n3, Value.int IntKind.i64 n4, Value.string s5, Value.int IntKind.i64 n6, Value.int IntKind.i64 n7,
      Value.int IntKind.i64 n8, Value.int IntKind.i64 n9, Value.int IntKind.i64 n10, Value.slice a11 k12 k13, Value.slice a14 k15 k16, Value.slice a17 k18 k19]]).toArray H Q :=
  Triple.of_vc whole.cx (by kernel_rfl) h

theorem maxS.vc (a1 : Option Addr) (k2 : Nat) (k3 : Nat) (H : PHeap) (Q : Value → PHeap → Prop)
    (h : (decide ((↑k2 : Int) < 1) = true → False) ∧
  (decide ((↑k2 : Int) < 1) = false →
    Ob (a1 ≠ none ∧ (0 : Int) ≤ 0 ∧ 0 < (↑k2 : Int)) ∧
      ∃ s4,
        Reads H (elemA a1 0 1) [Value.string s4] ∧
        ∃ (R5 : Rl) (M6 : Mu),
        R5 [Value.string s4, Value.int IntKind.i64 1] H ∧
        ∀ (s7 : ByteArray) (n8 : Int) (H9 : PHeap),
        R5 [Value.string s7, Value.int IntKind.i64 n8] H9 →
        (decide (n8 < (↑k2 : Int)) = true →
        Ob (a1 ≠ none ∧ 0 ≤ n8 ∧ n8 < (↑k2 : Int)) ∧
        ∃ s10,
        Reads H9 (elemA a1 n8 1) [Value.string s10] ∧
        R5 [Value.string (maxT s7 s10), Value.int IntKind.i64 (IntKind.i64.wrap (n8 + 1))] H9 ∧
        Less (M6 [Value.string (maxT s7 s10), Value.int IntKind.i64 (IntKind.i64.wrap (n8 + 1))] H9) (M6 [Value.string s7, Value.int IntKind.i64 n8] H9)) ∧
        (decide (n8 < (↑k2 : Int)) = false → Q (Value.string s7) H9))) :
    Triple Go.Proofs.Try.prog 28 ([Value.slice a1 k2 k3]).toArray H Q :=
  Triple.of_vc maxS.cx (by kernel_rfl) h

theorem delS.vc (a1 : Option Addr) (k2 : Nat) (k3 : Nat) (v4 : Value) (H : PHeap) (Q : Value → PHeap → Prop)
    (h : Triple Proofs.Try.prog 47 #[Value.slice a1 k2 k3, v4] H fun v5 H6 =>
  ∃ n7,
    v5 = Value.int IntKind.i64 n7 ∧
      ((n7 == -1) = true → Q (Value.slice a1 k2 k3) H6) ∧
        ((n7 == -1) = false →
        ∃ (R8 : Rl) (M9 : Mu),
        R8 [Value.int IntKind.i64 n7, Value.int IntKind.i64 (IntKind.i64.wrap (n7 + 1))] H6 ∧
        ∀ (n10 n11 : Int) (H12 : PHeap),
        R8 [Value.int IntKind.i64 n10, Value.int IntKind.i64 n11] H12 →
        (decide (n11 < (↑k2 : Int)) = true →
        Ob (a1 ≠ none ∧ 0 ≤ n11 ∧ n11 < (↑k2 : Int)) ∧
        ∃ s13,
        Reads H12 (elemA a1 n11 1) [Value.string s13] ∧
        CallY Proofs.Try.prog v4 #[Value.string s13] H12 fun v14 H15 =>
        ∃ b16,
        v14 = Value.bool b16 ∧
        ((!b16) = true →
        Ob (a1 ≠ none ∧ 0 ≤ n10 ∧ n10 < (↑k2 : Int)) ∧
        ∃ H17,
        Writes H15 H17 (elemA a1 n10 1) [Value.string s13] ∧
        R8 [Value.int IntKind.i64 (IntKind.i64.wrap (n10 + 1)), Value.int IntKind.i64 (IntKind.i64.wrap (n11 + 1))] H17 ∧
        Less (M9 [Value.int IntKind.i64 (IntKind.i64.wrap (n10 + 1)), Value.int IntKind.i64 (IntKind.i64.wrap (n11 + 1))] H17)
        (M9 [Value.int IntKind.i64 n10, Value.int IntKind.i64 n11] H12)) ∧
        ((!b16) = false →
        R8 [Value.int IntKind.i64 n10, Value.int IntKind.i64 (IntKind.i64.wrap (n11 + 1))] H15 ∧
        Less (M9 [Value.int IntKind.i64 n10, Value.int IntKind.i64 (IntKind.i64.wrap (n11 + 1))] H15)
        (M9 [Value.int IntKind.i64 n10, Value.int IntKind.i64 n11] H12))) ∧
        (decide (n11 < (↑k2 : Int)) = false →
        Ob (0 ≤ n10 ∧ n10 ≤ (↑k2 : Int) ∧ (↑k2 : Int) ≤ (↑k3 : Int)) ∧
        EvV Proofs.Try.prog (Builtin.clear_ #[24] 0 #[Value.slice (slA a1 n10 k3 1) ((↑k2 : Int).toNat - n10.toNat) (k3 - n10.toNat)]) H12 fun v18 H19 =>
        Ob ((0 : Int) ≤ 0 ∧ 0 ≤ n10 ∧ n10 ≤ (↑k3 : Int)) ∧ Q (Value.slice (slA a1 0 k3 1) (n10.toNat - Int.toNat 0) (k3 - Int.toNat 0)) H19))) :
    Triple Go.Proofs.Try.prog 29 ([Value.slice a1 k2 k3, v4]).toArray H Q :=
  Triple.of_vc delS.cx (by kernel_rfl) h

theorem idxFS.vc (a1 : Option Addr) (k2 : Nat) (k3 : Nat) (v4 : Value) (H : PHeap) (Q : Value → PHeap → Prop)
    (h : ∃ (R5 : Rl) (M6 : Mu),
  R5 [Value.int IntKind.i64 0] H ∧
    ∀ (n7 : Int) (H8 : PHeap),
      R5 [Value.int IntKind.i64 n7] H8 →
        (decide (n7 < (↑k2 : Int)) = true →
        Ob (a1 ≠ none ∧ 0 ≤ n7 ∧ n7 < (↑k2 : Int)) ∧
        ∃ s9,
        Reads H8 (elemA a1 n7 1) [Value.string s9] ∧
        CallY Proofs.Try.prog v4 #[Value.string s9] H8 fun v10 H11 =>
        ∃ b12,
        v10 = Value.bool b12 ∧
        (b12 = true → Q (Value.int IntKind.i64 n7) H11) ∧
        (b12 = false →
        R5 [Value.int IntKind.i64 (IntKind.i64.wrap (n7 + 1))] H11 ∧ Less (M6 [Value.int IntKind.i64 (IntKind.i64.wrap (n7 + 1))] H11) (M6 [Value.int IntKind.i64 n7] H8))) ∧
        (decide (n7 < (↑k2 : Int)) = false → Q (Value.int IntKind.i64 (-1)) H8)) :
    Triple Go.Proofs.Try.prog 47 ([Value.slice a1 k2 k3, v4]).toArray H Q :=
  Triple.of_vc idxFS.cx (by kernel_rfl) h

theorem cloneS.vc (a1 : Option Addr) (k2 : Nat) (k3 : Nat) (H : PHeap) (Q : Value → PHeap → Prop)
    (h : (a1.isNone = true → Q (Value.slice none 0 0) H) ∧
  (a1.isNone = false →
    ∀ (k4 : Nat),
      H k4 = none →
        EvV Proofs.Try.prog (Builtin.append_ #[24, 24] 24 #[Value.slice (at0 k4) 0 0, Value.slice a1 k2 k3]) (H.upd k4 (Obj.cells #[] 9)) fun v5 H6 =>
        ∃ a7 k8 k9, v5 = Value.slice a7 k8 k9 ∧ Q (Value.slice a7 k8 k9) H6)) :
    Triple Go.Proofs.Try.prog 30 ([Value.slice a1 k2 k3]).toArray H Q :=
  Triple.of_vc cloneS.cx (by kernel_rfl) h

end Go.Vc
