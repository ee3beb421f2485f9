/- What is to be shown of each function, in its normal form. Printed by a program of this session's, checked by the kernel. -/
import Derived.Test.YtllbdocjgdnofaaVxN
import Derived.Test.YtllbdocjgdnofaaProg
set_option linter.unusedVariables false
set_option maxRecDepth 100000
namespace Go.Vc
open Go.Vx Go
def lawPTurns.cx : Cx := ⟨[5], [(6, [21], [6]), (11, [31], [])], [], []⟩
def refEnough.cx : Cx := ⟨[], [(3, [5, 6], [])], [], []⟩
def refTurn.cx : Cx := ⟨[2], [(4, [6, 7, 8], []), (15, [10], []), (18, [11], [])], [], []⟩
def greatest.cx : Cx := ⟨[], [(3, [3, 4], [])], [], []⟩
def refWho.cx : Cx := ⟨[], [], [], []⟩

theorem lawPTurns.vc (n1 : Int) (n2 : Int) (n3 : Int) (n4 : Int) (n5 : Int) (n6 : Int) (a7 : Option Addr) (k8 : Nat) (k9 : Nat) (H : PHeap) (Q : Value → PHeap → Prop)
    (h : (decide ((↑k8 : Int) > 12) = true → Triple Proofs.Try.prog 5 #[] H fun v10 H11 => ∃ b12, v10 = Value.bool b12 ∧ Q (Value.bool b12) H11) ∧
  (decide ((↑k8 : Int) > 12) = false →
    ∀ (k13 : Nat),
      H k13 = none →
        ∃ (R14 : Rl) (M15 : Mu),
        R14 [Value.int IntKind.i64 0, Value.agg #[Value.slice none 0 0, Value.string { data := #[] }, Value.slice none 0 0]]
        (H.upd k13 (Obj.cells #[Value.slice none 0 0, Value.string { data := #[] }, Value.slice none 0 0] 31)) ∧
        ∀ (n16 : Int) (a17 : Option Addr) (k18 k19 : Nat) (s20 : ByteArray) (a21 : Option Addr) (k22 k23 : Nat) (H24 : PHeap),
        R14 [Value.int IntKind.i64 n16, Value.agg #[Value.slice a17 k18 k19, Value.string s20, Value.slice a21 k22 k23]] H24 →
        (decide (n16 < (↑k8 : Int)) = true →
        Ob (a7 ≠ none ∧ 0 ≤ n16 ∧ n16 < (↑k8 : Int)) ∧
        ∃ a25 k26 k27,
        Reads H24 (elemA a7 n16 1) [Value.slice a25 k26 k27] ∧
        (decide ((↑k26 : Int) > 12) = true → Triple Proofs.Try.prog 5 #[] H24 fun v28 H29 => ∃ b30, v28 = Value.bool b30 ∧ Q (Value.bool b30) H29) ∧
        (decide ((↑k26 : Int) > 12) = false →
        ∃ (R31 : Rl) (M32 : Mu),
        R31 [Value.int IntKind.i64 0] H24 ∧
        ∀ (n33 : Int) (H34 : PHeap),
        R31 [Value.int IntKind.i64 n33] H34 →
        (decide (n33 < (↑k26 : Int)) = true →
        Ob (a25 ≠ none ∧ 0 ≤ n33 ∧ n33 < (↑k26 : Int)) ∧
        ∃ n35 n36 n37 n38 s39 n40 n41 n42 n43 n44 a45 k46 k47 a48 k49 k50 a51 k52 k53,
        Reads H34 (elemA a25 n33 13)
        [Value.int IntKind.i64 n35, Value.int IntKind.i64 n36, Value.int IntKind.i64 n37, Value.int IntKind.i64 n38, Value.string s39,
        Value.int IntKind.i64 n40, Value.int IntKind.i64 n41, Value.int IntKind.i64 n42, Value.int IntKind.i64 n43, Value.int IntKind.i64 n44,
        Value.slice a45 k46 k47, Value.slice a48 k49 k50, Value.slice a51 k52 k53] ∧
        Triple Proofs.Try.prog 15
        #[Value.agg
        #[Value.int IntKind.i64 n35, Value.int IntKind.i64 n36, Value.int IntKind.i64 n37, Value.int IntKind.i64 n38, Value.string s39,
        Value.int IntKind.i64 n40, Value.int IntKind.i64 n41, Value.int IntKind.i64 n42, Value.int IntKind.i64 n43, Value.int IntKind.i64 n44,
        Value.slice a45 k46 k47, Value.slice a48 k49 k50, Value.slice a51 k52 k53]]
        H34 fun v54 H55 =>
        ∃ b56,
        v54 = Value.bool b56 ∧
        (b56 = true → Triple Proofs.Try.prog 5 #[] H55 fun v57 H58 => ∃ b59, v57 = Value.bool b59 ∧ Q (Value.bool b59) H58) ∧
        (b56 = false →
        R31 [Value.int IntKind.i64 (IntKind.i64.wrap (n33 + 1))] H55 ∧
        Less (M32 [Value.int IntKind.i64 (IntKind.i64.wrap (n33 + 1))] H55) (M32 [Value.int IntKind.i64 n33] H34))) ∧
        (decide (n33 < (↑k26 : Int)) = false →
        ∃ H60,
        Vx.Sub H60 H34 ∧
        Triple Proofs.Try.prog 16
        #[Value.pointer (at0 k13),
        Value.agg
        #[Value.int IntKind.i64 n1, Value.int IntKind.i64 n2, Value.int IntKind.i64 n3, Value.int IntKind.i64 n4, Value.int IntKind.i64 n5,
        Value.int IntKind.i64 n6],
        Value.slice a25 k26 k27]
        H34 fun v61 H62 =>
        ∃ b63,
        v61 = Value.bool b63 ∧
        Vx.Sub H60 H62 ∧
        Triple Proofs.Try.prog 17
        #[Value.agg
        #[Value.int IntKind.i64 n1, Value.int IntKind.i64 n2, Value.int IntKind.i64 n3, Value.int IntKind.i64 n4, Value.int IntKind.i64 n5,
        Value.int IntKind.i64 n6],
        Value.slice a25 k26 k27]
        H62 fun v64 H65 =>
        ∃ b66,
        v64 = Value.bool b66 ∧
        ((!b63 == b66) = true → Q (Value.bool false) H65) ∧
        ((!b63 == b66) = false →
        Triple Proofs.Try.prog 12 #[Value.pointer (at0 k13), Value.slice a25 k26 k27] H65 fun v67 H68 =>
        ∃ b69,
        v67 = Value.bool b69 ∧
        Triple Proofs.Try.prog 18
        #[Value.agg #[Value.slice a17 k18 k19, Value.string s20, Value.slice a21 k22 k23], Value.slice a25 k26 k27] H68 fun v70 H71 =>
        ∃ a72 k73 k74 s75 a76 k77 k78 b79,
        v70 = Value.tuple #[Value.agg #[Value.slice a72 k73 k74, Value.string s75, Value.slice a76 k77 k78], Value.bool b79] ∧
        ∃ H80,
        Vx.Sub H80 H71 ∧
        ((!b69 == b79) = false →
        Triple Proofs.Try.prog 14 #[Value.pointer (at0 k13)] H71 fun v81 H82 =>
        ∃ a83 k84 k85,
        v81 = Value.slice a83 k84 k85 ∧
        Vx.Sub H80 H82 ∧
        Triple Proofs.Try.prog 13 #[Value.slice a83 k84 k85, Value.slice a72 k73 k74] H82 fun v86 H87 =>
        ∃ b88,
        v86 = Value.bool b88 ∧
        Vx.Sub H80 H87 ∧
        ((!b88) = false →
        Triple Proofs.Try.prog 11 #[Value.pointer (at0 k13)] H87 fun v89 H90 =>
        ∃ s91,
        v89 = Value.string s91 ∧
        Vx.Sub H80 H90 ∧
        ((!eqS s91 s75) = false →
        Triple Proofs.Try.prog 20 #[Value.pointer (at0 k13)] H90
        fun v92 H93 =>
        ∃ a94 k95 k96,
        v92 = Value.slice a94 k95 k96 ∧
        Vx.Sub H80 H93 ∧
        Triple Proofs.Try.prog 19
        #[Value.slice a94 k95 k96, Value.slice a76 k77 k78] H93 fun v97 H98 =>
        ∃ b99,
        v97 = Value.bool b99 ∧
        ((!b99) = true → Q (Value.bool false) H98) ∧
        ((!b99) = false →
        R14
        [Value.int IntKind.i64 (IntKind.i64.wrap (n16 + 1)),
        Value.agg
        #[Value.slice a72 k73 k74, Value.string s75,
        Value.slice a76 k77 k78]]
        H98 ∧
        Less
        (M15
        [Value.int IntKind.i64 (IntKind.i64.wrap (n16 + 1)),
        Value.agg
        #[Value.slice a72 k73 k74, Value.string s75,
        Value.slice a76 k77 k78]]
        H98)
        (M15
        [Value.int IntKind.i64 n16,
        Value.agg
        #[Value.slice a17 k18 k19, Value.string s20,
        Value.slice a21 k22 k23]]
        H24))) ∧
        ((!eqS s91 s75) = !false → Q (Value.bool false) H90)) ∧
        ((!b88) = !false → Q (Value.bool false) H87)) ∧
        ((!b69 == b79) = !false → Q (Value.bool false) H71))))) ∧
        (decide (n16 < (↑k8 : Int)) = false →
        Triple Proofs.Try.prog 12 #[Value.pointer none, Value.slice none 0 0] H24 fun v100 H101 =>
        ∃ b102,
        v100 = Value.bool b102 ∧
        ((!b102) = true →
        Triple Proofs.Try.prog 16
        #[Value.pointer none,
        Value.agg
        #[Value.int IntKind.i64 n1, Value.int IntKind.i64 n2, Value.int IntKind.i64 n3, Value.int IntKind.i64 n4, Value.int IntKind.i64 n5, Value.int IntKind.i64 n6],
        Value.slice none 0 0]
        H101 fun v103 H104 =>
        ∃ b105,
        v103 = Value.bool b105 ∧
        ((!b105) = true →
        Triple Proofs.Try.prog 11 #[Value.pointer none] H104 fun v106 H107 =>
        ∃ s108,
        v106 = Value.string s108 ∧
        (eqS s108 { data := #[] } = true →
        Triple Proofs.Try.prog 14 #[Value.pointer none] H107 fun v109 H110 =>
        ∃ a111 k112 k113,
        v109 = Value.slice a111 k112 k113 ∧
        Triple Proofs.Try.prog 20 #[Value.pointer none] H110 fun v114 H115 =>
        ∃ a116 k117 k118,
        v114 = Value.slice a116 k117 k118 ∧
        ((IntKind.i64.wrap ((↑k112 : Int) + (↑k117 : Int)) == 0) = true →
        Triple Proofs.Try.prog 5 #[] H115 fun v119 H120 => ∃ b121, v119 = Value.bool b121 ∧ Q (Value.bool b121) H120) ∧
        ((IntKind.i64.wrap ((↑k112 : Int) + (↑k117 : Int)) == 0) = !true → Q (Value.bool false) H115)) ∧
        (eqS s108 { data := #[] } = !true → Q (Value.bool false) H107)) ∧
        ((!b105) = !true → Q (Value.bool false) H104)) ∧
        ((!b102) = !true → Q (Value.bool false) H101)))) :
    Triple Go.Proofs.Try.prog 4 ([Value.agg #[Value.int IntKind.i64 n1, Value.int IntKind.i64 n2, Value.int IntKind.i64 n3, Value.int IntKind.i64 n4, Value.int IntKind.i64 n5, Value.int IntKind.i64 n6], Value.slice a7 k8 k9]).toArray H Q :=
  Triple.of_vc lawPTurns.cx (by kernel_rfl) h

theorem refEnough.vc (n1 : Int) (n2 : Int) (n3 : Int) (n4 : Int) (n5 : Int) (n6 : Int) (a7 : Option Addr) (k8 : Nat) (k9 : Nat) (H : PHeap) (Q : Value → PHeap → Prop)
    (h : ∃ (R10 : Rl) (M11 : Mu),
  R10 [Value.int IntKind.i64 0, Value.int IntKind.i64 0] H ∧
    ∀ (n12 n13 : Int) (H14 : PHeap),
      R10 [Value.int IntKind.i64 n12, Value.int IntKind.i64 n13] H14 →
        (decide (n13 < (↑k8 : Int)) = true →
        Ob (a7 ≠ none ∧ 0 ≤ n13 ∧ n13 < (↑k8 : Int)) ∧
        Ob (elemA a7 n13 13 ≠ none) ∧
        ∃ n15,
        Reads H14 (fldA (elemA a7 n13 13) 0) [Value.int IntKind.i64 n15] ∧
        ((n15 == 20) = true →
        Ob (a7 ≠ none ∧ 0 ≤ n13 ∧ n13 < (↑k8 : Int)) ∧
        ∃ n16 n17 n18 n19 s20 n21 n22 n23 n24 n25 a26 k27 k28 a29 k30 k31 a32 k33 k34,
        Reads H14 (elemA a7 n13 13)
        [Value.int IntKind.i64 n16, Value.int IntKind.i64 n17, Value.int IntKind.i64 n18, Value.int IntKind.i64 n19, Value.string s20, Value.int IntKind.i64 n21,
        Value.int IntKind.i64 n22, Value.int IntKind.i64 n23, Value.int IntKind.i64 n24, Value.int IntKind.i64 n25, Value.slice a26 k27 k28, Value.slice a29 k30 k31,
        Value.slice a32 k33 k34] ∧
        Triple Proofs.Try.prog 35
        #[Value.agg
        #[Value.int IntKind.i64 n16, Value.int IntKind.i64 n17, Value.int IntKind.i64 n18, Value.int IntKind.i64 n19, Value.string s20, Value.int IntKind.i64 n21,
        Value.int IntKind.i64 n22, Value.int IntKind.i64 n23, Value.int IntKind.i64 n24, Value.int IntKind.i64 n25, Value.slice a26 k27 k28, Value.slice a29 k30 k31,
        Value.slice a32 k33 k34],
        Value.int IntKind.i64 0]
        H14 fun v35 H36 =>
        ∃ n37,
        v35 = Value.int IntKind.i64 n37 ∧
        R10 [Value.int IntKind.i64 (bif n37 == 1 then IntKind.i64.wrap (n12 + 1) else n12), Value.int IntKind.i64 (IntKind.i64.wrap (n13 + 1))] H36 ∧
        Less (M11 [Value.int IntKind.i64 (bif n37 == 1 then IntKind.i64.wrap (n12 + 1) else n12), Value.int IntKind.i64 (IntKind.i64.wrap (n13 + 1))] H36)
        (M11 [Value.int IntKind.i64 n12, Value.int IntKind.i64 n13] H14)) ∧
        ((n15 == 20) = !true →
        R10 [Value.int IntKind.i64 n12, Value.int IntKind.i64 (IntKind.i64.wrap (n13 + 1))] H14 ∧
        Less (M11 [Value.int IntKind.i64 n12, Value.int IntKind.i64 (IntKind.i64.wrap (n13 + 1))] H14) (M11 [Value.int IntKind.i64 n12, Value.int IntKind.i64 n13] H14))) ∧
        (decide (n13 < (↑k8 : Int)) = false →
        Triple Proofs.Try.prog 36
        #[Value.agg #[Value.int IntKind.i64 n1, Value.int IntKind.i64 n2, Value.int IntKind.i64 n3, Value.int IntKind.i64 n4, Value.int IntKind.i64 n5, Value.int IntKind.i64 n6]] H14
        fun v38 H39 => ∃ b40, v38 = Value.bool b40 ∧ Q (Value.bool (bif b40 then decide (n12 ≥ IntKind.i64.wrap (IntKind.i64.wrap (n1 - n4) + 1)) else false)) H39)) :
    Triple Go.Proofs.Try.prog 17 ([Value.agg #[Value.int IntKind.i64 n1, Value.int IntKind.i64 n2, Value.int IntKind.i64 n3, Value.int IntKind.i64 n4, Value.int IntKind.i64 n5, Value.int IntKind.i64 n6], Value.slice a7 k8 k9]).toArray H Q :=
  Triple.of_vc refEnough.cx (by kernel_rfl) h

theorem refTurn.vc (a1 : Option Addr) (k2 : Nat) (k3 : Nat) (s4 : ByteArray) (a5 : Option Addr) (k6 : Nat) (k7 : Nat) (a8 : Option Addr) (k9 : Nat) (k10 : Nat) (H : PHeap) (Q : Value → PHeap → Prop)
    (h : ∀ (k11 : Nat),
  H k11 = none →
    ∃ (R12 : Rl) (M13 : Mu),
      R12 [Value.bool true, Value.string { data := #[] }, Value.int IntKind.i64 0] (H.upd k11 (Obj.cells #[Value.slice a1 k2 k3, Value.string s4, Value.slice a5 k6 k7] 47)) ∧
        ∀ (b14 : Bool) (s15 : ByteArray) (n16 : Int) (H17 : PHeap),
        R12 [Value.bool b14, Value.string s15, Value.int IntKind.i64 n16] H17 →
        (decide (n16 < (↑k9 : Int)) = true →
        Ob (a8 ≠ none ∧ 0 ≤ n16 ∧ n16 < (↑k9 : Int)) ∧
        Ob (elemA a8 n16 13 ≠ none) ∧
        ∃ n18,
        Reads H17 (fldA (elemA a8 n16 13) 0) [Value.int IntKind.i64 n18] ∧
        ((n18 != 20) = true →
        R12 [Value.bool b14, Value.string s15, Value.int IntKind.i64 (IntKind.i64.wrap (n16 + 1))] H17 ∧
        Less (M13 [Value.bool b14, Value.string s15, Value.int IntKind.i64 (IntKind.i64.wrap (n16 + 1))] H17)
        (M13 [Value.bool b14, Value.string s15, Value.int IntKind.i64 n16] H17)) ∧
        ((n18 != 20) = false →
        Ob (a8 ≠ none ∧ 0 ≤ n16 ∧ n16 < (↑k9 : Int)) ∧
        ∃ n19 n20 n21 n22 s23 n24 n25 n26 n27 n28 a29 k30 k31 a32 k33 k34 a35 k36 k37,
        Reads H17 (elemA a8 n16 13)
        [Value.int IntKind.i64 n19, Value.int IntKind.i64 n20, Value.int IntKind.i64 n21, Value.int IntKind.i64 n22, Value.string s23, Value.int IntKind.i64 n24,
        Value.int IntKind.i64 n25, Value.int IntKind.i64 n26, Value.int IntKind.i64 n27, Value.int IntKind.i64 n28, Value.slice a29 k30 k31, Value.slice a32 k33 k34,
        Value.slice a35 k36 k37] ∧
        Triple Proofs.Try.prog 35
        #[Value.agg
        #[Value.int IntKind.i64 n19, Value.int IntKind.i64 n20, Value.int IntKind.i64 n21, Value.int IntKind.i64 n22, Value.string s23, Value.int IntKind.i64 n24,
        Value.int IntKind.i64 n25, Value.int IntKind.i64 n26, Value.int IntKind.i64 n27, Value.int IntKind.i64 n28, Value.slice a29 k30 k31, Value.slice a32 k33 k34,
        Value.slice a35 k36 k37],
        Value.int IntKind.i64 0]
        H17 fun v38 H39 =>
        ∃ n40,
        v38 = Value.int IntKind.i64 n40 ∧
        ((n40 == 2) = true →
        ∃ H41,
        Vx.Sub H41 H39 ∧
        Ob (at0 k11 ≠ none) ∧
        ∃ a42 k43 k44,
        Reads H41 (fldA (at0 k11) 2) [Value.slice a42 k43 k44] ∧
        Ob (a8 ≠ none ∧ 0 ≤ n16 ∧ n16 < (↑k9 : Int)) ∧
        Ob (elemA a8 n16 13 ≠ none) ∧
        ∃ n45,
        Reads H41 (fldA (elemA a8 n16 13) 1) [Value.int IntKind.i64 n45] ∧
        ∀ (k46 : Nat),
        H39 k46 = none →
        Vx.Sub H41 (H39.upd k46 (Obj.cells #[] 3)) ∧
        EvV Proofs.Try.prog (Builtin.append_ #[29, 29] 29 #[Value.slice (at0 k46) 0 0, Value.slice a42 k43 k44])
        (H39.upd k46 (Obj.cells #[] 3)) fun v47 H48 =>
        ∃ a49 k50 k51,
        v47 = Value.slice a49 k50 k51 ∧
        Vx.Sub H41 H48 ∧
        ∀ (k52 : Nat),
        H48 k52 = none →
        Vx.Sub H41 (H48.upd k52 (Obj.cells #[Value.int IntKind.i64 n45] 3)) ∧
        EvV Proofs.Try.prog
        (Builtin.append_ #[29, 29] 29 #[Value.slice a49 k50 k51, Value.slice (at0 k52) 1 1])
        (H48.upd k52 (Obj.cells #[Value.int IntKind.i64 n45] 3)) fun v53 H54 =>
        ∃ a55 k56 k57,
        v53 = Value.slice a55 k56 k57 ∧
        Triple Proofs.Try.prog 37 #[Value.slice a55 k56 k57, Value.slice none 0 0] H54 fun v58 H59 =>
        ∃ a60 k61 k62,
        v58 = Value.slice a60 k61 k62 ∧
        Ob (at0 k11 ≠ none) ∧
        ∃ H63,
        Writes H59 H63 (fldA (at0 k11) 2) [Value.slice a60 k61 k62] ∧
        Ob (a8 ≠ none ∧ 0 ≤ n16 ∧ n16 < (↑k9 : Int)) ∧
        Ob (elemA a8 n16 13 ≠ none) ∧
        ∃ n64,
        Reads H63 (fldA (elemA a8 n16 13) 9) [Value.int IntKind.i64 n64] ∧
        ((n64 != 1) = true →
        Ob (a8 ≠ none ∧ 0 ≤ n16 ∧ n16 < (↑k9 : Int)) ∧
        Ob (elemA a8 n16 13 ≠ none) ∧
        ∃ a65 k66 k67,
        Reads H63 (fldA (elemA a8 n16 13) 11) [Value.slice a65 k66 k67] ∧
        (decide ((↑k66 : Int) > 0) = true →
        Ob (a8 ≠ none ∧ 0 ≤ n16 ∧ n16 < (↑k9 : Int)) ∧
        Ob (elemA a8 n16 13 ≠ none) ∧
        ∃ a68 k69 k70,
        Reads H63 (fldA (elemA a8 n16 13) 11) [Value.slice a68 k69 k70] ∧
        Triple Proofs.Try.prog 38 #[Value.slice a68 k69 k70] H63
        fun v71 H72 =>
        ∃ s73,
        v71 = Value.string s73 ∧
        (b14 = false →
        Triple Proofs.Try.prog 21
        #[Value.string s73, Value.string s15] H72 fun v74 H75 =>
        ∃ b76,
        v74 = Value.bool b76 ∧
        R12
        [Value.bool false,
        Value.string (bif b76 then s73 else s15),
        Value.int IntKind.i64
        (IntKind.i64.wrap (n16 + 1))]
        H75 ∧
        Less
        (M13
        [Value.bool false,
        Value.string (bif b76 then s73 else s15),
        Value.int IntKind.i64
        (IntKind.i64.wrap (n16 + 1))]
        H75)
        (M13
        [Value.bool b14, Value.string s15,
        Value.int IntKind.i64 n16]
        H17)) ∧
        (b14 = !false →
        R12
        [Value.bool false, Value.string s73,
        Value.int IntKind.i64 (IntKind.i64.wrap (n16 + 1))]
        H72 ∧
        Less
        (M13
        [Value.bool false, Value.string s73,
        Value.int IntKind.i64
        (IntKind.i64.wrap (n16 + 1))]
        H72)
        (M13
        [Value.bool b14, Value.string s15,
        Value.int IntKind.i64 n16]
        H17))) ∧
        (decide ((↑k66 : Int) > 0) = false →
        R12
        [Value.bool b14, Value.string s15,
        Value.int IntKind.i64 (IntKind.i64.wrap (n16 + 1))]
        H63 ∧
        Less
        (M13
        [Value.bool b14, Value.string s15,
        Value.int IntKind.i64 (IntKind.i64.wrap (n16 + 1))]
        H63)
        (M13 [Value.bool b14, Value.string s15, Value.int IntKind.i64 n16]
        H17))) ∧
        ((n64 != 1) = !true →
        R12
        [Value.bool b14, Value.string s15,
        Value.int IntKind.i64 (IntKind.i64.wrap (n16 + 1))]
        H63 ∧
        Less
        (M13
        [Value.bool b14, Value.string s15,
        Value.int IntKind.i64 (IntKind.i64.wrap (n16 + 1))]
        H63)
        (M13 [Value.bool b14, Value.string s15, Value.int IntKind.i64 n16] H17))) ∧
        ((n40 == 2) = false →
        Ob (a8 ≠ none ∧ 0 ≤ n16 ∧ n16 < (↑k9 : Int)) ∧
        Ob (elemA a8 n16 13 ≠ none) ∧
        ∃ n77,
        Reads H39 (fldA (elemA a8 n16 13) 9) [Value.int IntKind.i64 n77] ∧
        ((n77 != 1) = true →
        Ob (a8 ≠ none ∧ 0 ≤ n16 ∧ n16 < (↑k9 : Int)) ∧
        Ob (elemA a8 n16 13 ≠ none) ∧
        ∃ a78 k79 k80,
        Reads H39 (fldA (elemA a8 n16 13) 11) [Value.slice a78 k79 k80] ∧
        (decide ((↑k79 : Int) > 0) = true →
        Ob (a8 ≠ none ∧ 0 ≤ n16 ∧ n16 < (↑k9 : Int)) ∧
        Ob (elemA a8 n16 13 ≠ none) ∧
        ∃ a81 k82 k83,
        Reads H39 (fldA (elemA a8 n16 13) 11) [Value.slice a81 k82 k83] ∧
        Triple Proofs.Try.prog 38 #[Value.slice a81 k82 k83] H39 fun v84 H85 =>
        ∃ s86,
        v84 = Value.string s86 ∧
        (b14 = false →
        Triple Proofs.Try.prog 21 #[Value.string s86, Value.string s15] H85 fun v87 H88 =>
        ∃ b89,
        v87 = Value.bool b89 ∧
        R12
        [Value.bool false, Value.string (bif b89 then s86 else s15),
        Value.int IntKind.i64 (IntKind.i64.wrap (n16 + 1))]
        H88 ∧
        Less
        (M13
        [Value.bool false, Value.string (bif b89 then s86 else s15),
        Value.int IntKind.i64 (IntKind.i64.wrap (n16 + 1))]
        H88)
        (M13 [Value.bool b14, Value.string s15, Value.int IntKind.i64 n16] H17)) ∧
        (b14 = !false →
        R12 [Value.bool false, Value.string s86, Value.int IntKind.i64 (IntKind.i64.wrap (n16 + 1))] H85 ∧
        Less (M13 [Value.bool false, Value.string s86, Value.int IntKind.i64 (IntKind.i64.wrap (n16 + 1))] H85)
        (M13 [Value.bool b14, Value.string s15, Value.int IntKind.i64 n16] H17))) ∧
        (decide ((↑k79 : Int) > 0) = false →
        R12 [Value.bool b14, Value.string s15, Value.int IntKind.i64 (IntKind.i64.wrap (n16 + 1))] H39 ∧
        Less (M13 [Value.bool b14, Value.string s15, Value.int IntKind.i64 (IntKind.i64.wrap (n16 + 1))] H39)
        (M13 [Value.bool b14, Value.string s15, Value.int IntKind.i64 n16] H17))) ∧
        ((n77 != 1) = !true →
        R12 [Value.bool b14, Value.string s15, Value.int IntKind.i64 (IntKind.i64.wrap (n16 + 1))] H39 ∧
        Less (M13 [Value.bool b14, Value.string s15, Value.int IntKind.i64 (IntKind.i64.wrap (n16 + 1))] H39)
        (M13 [Value.bool b14, Value.string s15, Value.int IntKind.i64 n16] H17))))) ∧
        (decide (n16 < (↑k9 : Int)) = false →
        ∃ (R90 : Rl) (M91 : Mu),
        R90 [Value.int IntKind.i64 0] H17 ∧
        ∀ (n92 : Int) (H93 : PHeap),
        R90 [Value.int IntKind.i64 n92] H93 →
        (decide (n92 < (↑k9 : Int)) = true →
        ∃ (R94 : Rl) (M95 : Mu),
        R94 [Value.int IntKind.i64 0] H93 ∧
        ∀ (n96 : Int) (H97 : PHeap),
        R94 [Value.int IntKind.i64 n96] H97 →
        Ob (a8 ≠ none ∧ 0 ≤ n92 ∧ n92 < (↑k9 : Int)) ∧
        Ob (elemA a8 n92 13 ≠ none) ∧
        ∃ n98,
        Reads H97 (fldA (elemA a8 n92 13) 0) [Value.int IntKind.i64 n98] ∧
        ((n98 == 20) = true →
        Ob (a8 ≠ none ∧ 0 ≤ n92 ∧ n92 < (↑k9 : Int)) ∧
        Ob (elemA a8 n92 13 ≠ none) ∧
        ∃ a99 k100 k101,
        Reads H97 (fldA (elemA a8 n92 13) 11) [Value.slice a99 k100 k101] ∧
        (decide (n96 < (↑k100 : Int)) = true →
        (b14 = false →
        Ob (a8 ≠ none ∧ 0 ≤ n92 ∧ n92 < (↑k9 : Int)) ∧
        Ob (elemA a8 n92 13 ≠ none) ∧
        ∃ a102 k103 k104,
        Reads H97 (fldA (elemA a8 n92 13) 11) [Value.slice a102 k103 k104] ∧
        Ob (a102 ≠ none ∧ 0 ≤ n96 ∧ n96 < (↑k103 : Int)) ∧
        ∃ s105,
        Reads H97 (elemA a102 n96 1) [Value.string s105] ∧
        Triple Proofs.Try.prog 21 #[Value.string s15, Value.string s105] H97 fun v106 H107 =>
        ∃ b108,
        v106 = Value.bool b108 ∧
        ((!b108) = true →
        ∃ H109,
        Vx.Sub H109 H107 ∧
        Ob (at0 k11 ≠ none) ∧
        ∃ a110 k111 k112,
        Reads H109 (fldA (at0 k11) 0) [Value.slice a110 k111 k112] ∧
        Ob (a8 ≠ none ∧ 0 ≤ n92 ∧ n92 < (↑k9 : Int)) ∧
        Ob (elemA a8 n92 13 ≠ none) ∧
        ∃ a113 k114 k115,
        Reads H109 (fldA (elemA a8 n92 13) 11) [Value.slice a113 k114 k115] ∧
        Ob (a113 ≠ none ∧ 0 ≤ n96 ∧ n96 < (↑k114 : Int)) ∧
        ∃ s116,
        Reads H109 (elemA a113 n96 1) [Value.string s116] ∧
        Triple Proofs.Try.prog 9 #[Value.slice a110 k111 k112, Value.string s116] H107
        fun v117 H118 =>
        ∃ a119 k120 k121,
        v117 = Value.slice a119 k120 k121 ∧
        Ob (at0 k11 ≠ none) ∧
        ∃ H122,
        Writes H118 H122 (fldA (at0 k11) 0)
        [Value.slice a119 k120 k121] ∧
        R94 [Value.int IntKind.i64 (IntKind.i64.wrap (n96 + 1))] H122 ∧
        Less (M95 [Value.int IntKind.i64 (IntKind.i64.wrap (n96 + 1))] H122)
        (M95 [Value.int IntKind.i64 n96] H97)) ∧
        ((!b108) = false →
        R94 [Value.int IntKind.i64 (IntKind.i64.wrap (n96 + 1))] H107 ∧
        Less (M95 [Value.int IntKind.i64 (IntKind.i64.wrap (n96 + 1))] H107) (M95 [Value.int IntKind.i64 n96] H97))) ∧
        (b14 = !false →
        ∃ H123,
        Vx.Sub H123 H97 ∧
        Ob (at0 k11 ≠ none) ∧
        ∃ a124 k125 k126,
        Reads H123 (fldA (at0 k11) 0) [Value.slice a124 k125 k126] ∧
        Ob (a8 ≠ none ∧ 0 ≤ n92 ∧ n92 < (↑k9 : Int)) ∧
        Ob (elemA a8 n92 13 ≠ none) ∧
        ∃ a127 k128 k129,
        Reads H123 (fldA (elemA a8 n92 13) 11) [Value.slice a127 k128 k129] ∧
        Ob (a127 ≠ none ∧ 0 ≤ n96 ∧ n96 < (↑k128 : Int)) ∧
        ∃ s130,
        Reads H123 (elemA a127 n96 1) [Value.string s130] ∧
        Triple Proofs.Try.prog 9 #[Value.slice a124 k125 k126, Value.string s130] H97 fun v131 H132 =>
        ∃ a133 k134 k135,
        v131 = Value.slice a133 k134 k135 ∧
        Ob (at0 k11 ≠ none) ∧
        ∃ H136,
        Writes H132 H136 (fldA (at0 k11) 0) [Value.slice a133 k134 k135] ∧
        R94 [Value.int IntKind.i64 (IntKind.i64.wrap (n96 + 1))] H136 ∧
        Less (M95 [Value.int IntKind.i64 (IntKind.i64.wrap (n96 + 1))] H136)
        (M95 [Value.int IntKind.i64 n96] H97))) ∧
        (decide (n96 < (↑k100 : Int)) = false →
        R90 [Value.int IntKind.i64 (IntKind.i64.wrap (n92 + 1))] H97 ∧
        Less (M91 [Value.int IntKind.i64 (IntKind.i64.wrap (n92 + 1))] H97) (M91 [Value.int IntKind.i64 n92] H93))) ∧
        ((n98 == 20) = !true →
        R90 [Value.int IntKind.i64 (IntKind.i64.wrap (n92 + 1))] H97 ∧
        Less (M91 [Value.int IntKind.i64 (IntKind.i64.wrap (n92 + 1))] H97) (M91 [Value.int IntKind.i64 n92] H93))) ∧
        (decide (n92 < (↑k9 : Int)) = false →
        ((!b14) = true →
        Ob (at0 k11 ≠ none) ∧
        ∃ H137,
        Writes H93 H137 (fldA (at0 k11) 1) [Value.string s15] ∧
        ∃ a138 k139 k140 s141 a142 k143 k144,
        Reads H137 (at0 k11) [Value.slice a138 k139 k140, Value.string s141, Value.slice a142 k143 k144] ∧
        Q (Value.tuple #[Value.agg #[Value.slice a138 k139 k140, Value.string s141, Value.slice a142 k143 k144], Value.bool b14]) H137) ∧
        ((!b14) = false →
        ∃ a145 k146 k147 s148 a149 k150 k151,
        Reads H93 (at0 k11) [Value.slice a145 k146 k147, Value.string s148, Value.slice a149 k150 k151] ∧
        Q (Value.tuple #[Value.agg #[Value.slice a145 k146 k147, Value.string s148, Value.slice a149 k150 k151], Value.bool b14]) H93)))) :
    Triple Go.Proofs.Try.prog 18 ([Value.agg #[Value.slice a1 k2 k3, Value.string s4, Value.slice a5 k6 k7], Value.slice a8 k9 k10]).toArray H Q :=
  Triple.of_vc refTurn.cx (by kernel_rfl) h

theorem greatest.vc (a1 : Option Addr) (k2 : Nat) (k3 : Nat) (H : PHeap) (Q : Value → PHeap → Prop)
    (h : ∃ (R4 : Rl) (M5 : Mu),
  R4 [Value.string { data := #[] }, Value.int IntKind.i64 0] H ∧
    ∀ (s6 : ByteArray) (n7 : Int) (H8 : PHeap),
      R4 [Value.string s6, Value.int IntKind.i64 n7] H8 →
        (decide (n7 < (↑k2 : Int)) = true →
        Ob (a1 ≠ none ∧ 0 ≤ n7 ∧ n7 < (↑k2 : Int)) ∧
        ∃ s9,
        Reads H8 (elemA a1 n7 1) [Value.string s9] ∧
        Triple Proofs.Try.prog 21 #[Value.string s6, Value.string s9] H8 fun v10 H11 =>
        ∃ b12,
        v10 = Value.bool b12 ∧
        (b12 = true →
        Ob (a1 ≠ none ∧ 0 ≤ n7 ∧ n7 < (↑k2 : Int)) ∧
        ∃ s13,
        Reads H11 (elemA a1 n7 1) [Value.string s13] ∧
        R4 [Value.string s13, Value.int IntKind.i64 (IntKind.i64.wrap (n7 + 1))] H11 ∧
        Less (M5 [Value.string s13, Value.int IntKind.i64 (IntKind.i64.wrap (n7 + 1))] H11) (M5 [Value.string s6, Value.int IntKind.i64 n7] H8)) ∧
        (b12 = false →
        R4 [Value.string s6, Value.int IntKind.i64 (IntKind.i64.wrap (n7 + 1))] H11 ∧
        Less (M5 [Value.string s6, Value.int IntKind.i64 (IntKind.i64.wrap (n7 + 1))] H11) (M5 [Value.string s6, Value.int IntKind.i64 n7] H8))) ∧
        (decide (n7 < (↑k2 : Int)) = false → Q (Value.string s6) H8)) :
    Triple Go.Proofs.Try.prog 38 ([Value.slice a1 k2 k3]).toArray H Q :=
  Triple.of_vc greatest.cx (by kernel_rfl) h

theorem refWho.vc (n1 : Int) (n2 : Int) (n3 : Int) (n4 : Int) (s5 : ByteArray) (n6 : Int) (n7 : Int) (n8 : Int) (n9 : Int) (n10 : Int) (a11 : Option Addr) (k12 : Nat) (k13 : Nat) (a14 : Option Addr) (k15 : Nat) (k16 : Nat) (a17 : Option Addr) (k18 : Nat) (k19 : Nat) (n20 : Int) (H : PHeap) (Q : Value → PHeap → Prop)
    (h : (decide (n20 ≥ (↑k12 : Int)) = true → Q (Value.int IntKind.i64 0) H) ∧
  (decide (n20 ≥ (↑k12 : Int)) = false → Ob (a11 ≠ none ∧ 0 ≤ n20 ∧ n20 < (↑k12 : Int)) ∧ ∃ n21, Reads H (elemA a11 n20 1) [Value.int IntKind.i64 n21] ∧ Q (Value.int IntKind.i64 n21) H)) :
    Triple Go.Proofs.Try.prog 35 ([Value.agg
    #[Value.int IntKind.i64 n1, Value.int IntKind.i64 n2, Value.int IntKind.i64 n3, Value.int IntKind.i64 n4, Value.string s5, Value.int IntKind.i64 n6, Value.int IntKind.i64 n7,
      Value.int IntKind.i64 n8, Value.int IntKind.i64 n9, Value.int IntKind.i64 n10, Value.slice a11 k12 k13, Value.slice a14 k15 k16, Value.slice a17 k18 k19],
  Value.int IntKind.i64 n20]).toArray H Q :=
  Triple.of_vc refWho.cx (by kernel_rfl) h

end Go.Vc
