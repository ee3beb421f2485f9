/- What is to be shown of each function, in its normal form. Printed by a program of this session's, checked by the kernel. -/
import Derived.Test.YtcdgeeakfoofpaaVxN
import Derived.Test.YtcdgeeakfoofpaaProg
set_option linter.unusedVariables false
set_option maxRecDepth 100000
namespace Go.Vc
open Go.Vx Go
def lawPlays.cx : Cx := ⟨[], [(6, [4, 18], [])], [(2, [(4, 26), (10, 4)], [9])], []⟩
def lawOwn.cx : Cx := ⟨[], [], [], []⟩

theorem lawPlays.vc (a1 : Option Addr) (k2 : Nat) (k3 : Nat) (H : PHeap) (Q : Value → PHeap → Prop)
    (h : (decide ((↑k2 : Int) > 60) = true → Triple Proofs.Try.prog 5 #[] H fun v4 H5 => ∃ b6, v4 = Value.bool b6 ∧ Q (Value.bool b6) H5) ∧
  (decide ((↑k2 : Int) > 60) = false →
    Triple Proofs.Try.prog 6 #[] H fun v7 H8 =>
      ∃ a9,
        v7 = Value.pointer a9 ∧
        ∃ (R10 : Rl) (M11 : Mu),
        R10 [Value.slice none 0 0, Value.int IntKind.i64 0] H8 ∧
        ∀ (a12 : Option Addr) (k13 k14 : Nat) (n15 : Int) (H16 : PHeap),
        R10 [Value.slice a12 k13 k14, Value.int IntKind.i64 n15] H16 →
        (decide (n15 < (↑k2 : Int)) = true →
        Ob (a1 ≠ none ∧ 0 ≤ n15 ∧ n15 < (↑k2 : Int)) ∧
        ∃ n17 s18 n19 n20 n21,
        Reads H16 (elemA a1 n15 5) [Value.int IntKind.i64 n17, Value.string s18, Value.int IntKind.i64 n19, Value.int IntKind.i64 n20, Value.int IntKind.i64 n21] ∧
        (decide ((↑s18.size : Int) > 40) = true → Triple Proofs.Try.prog 5 #[] H16 fun v22 H23 => ∃ b24, v22 = Value.bool b24 ∧ Q (Value.bool b24) H23) ∧
        (decide ((↑s18.size : Int) > 40) = false →
        Triple Proofs.Try.prog 7 #[Value.slice a12 k13 k14, Value.string s18, Value.int IntKind.i64 n19] H16 fun v25 H26 =>
        ∃ n27,
        v25 = Value.int IntKind.i64 n27 ∧
        (decide (n27 ≥ 0) = true →
        Ob (a12 ≠ none ∧ 0 ≤ n27 ∧ n27 < (↑k13 : Int)) ∧
        ∃ s28 n29 n30 n31,
        Reads H26 (elemA a12 n27 4) [Value.string s28, Value.int IntKind.i64 n29, Value.int IntKind.i64 n30, Value.int IntKind.i64 n31] ∧
        Triple Proofs.Try.prog 8 #[Value.agg #[Value.string s28, Value.int IntKind.i64 n29, Value.int IntKind.i64 n30, Value.int IntKind.i64 n31]] H26
        fun v32 H33 =>
        ∃ s34 n35 n36 n37,
        v32 = Value.agg #[Value.string s34, Value.int IntKind.i64 n35, Value.int IntKind.i64 n36, Value.int IntKind.i64 n37] ∧
        ∃ (R38 : Rl),
        (∀ (a39 : Option Addr) (k40 k41 : Nat) (b42 : Bool) (s43 : ByteArray) (n44 n45 n46 : Int) (H47 : PHeap),
        R38
        [Value.slice a39 k40 k41, Value.bool b42,
        Value.agg #[Value.string s43, Value.int IntKind.i64 n44, Value.int IntKind.i64 n45, Value.int IntKind.i64 n46]]
        H47 →
        ((!(eqS s43 s34 && n44 == n35 && (n45 == n36 && n46 == n37))) = false →
        ((!b42 == decide (n27 ≥ 0)) = false →
        Triple Proofs.Try.prog 15 #[Value.pointer a9] H47 fun v48 H49 =>
        ∃ a50 k51 k52,
        v48 = Value.slice a50 k51 k52 ∧
        Triple Proofs.Try.prog 14 #[Value.slice a50 k51 k52, Value.slice a39 k40 k41] H49 fun v53 H54 =>
        ∃ b55,
        v53 = Value.bool b55 ∧
        ((!b55) = false →
        Triple Proofs.Try.prog 17 #[Value.pointer a9] H54 fun v56 H57 =>
        ∃ a58 k59 k60,
        v56 = Value.slice a58 k59 k60 ∧
        Triple Proofs.Try.prog 18 #[Value.slice a39 k40 k41] H57 fun v61 H62 =>
        ∃ a63 k64 k65,
        v61 = Value.slice a63 k64 k65 ∧
        Triple Proofs.Try.prog 16 #[Value.slice a58 k59 k60, Value.slice a63 k64 k65] H62 fun v66 H67 =>
        ∃ b68,
        v66 = Value.bool b68 ∧
        ((!b68) = true → Q (Value.bool false) H67) ∧
        ((!b68) = false →
        R10 [Value.slice a39 k40 k41, Value.int IntKind.i64 (IntKind.i64.wrap (n15 + 1))] H67 ∧
        Less
        (M11 [Value.slice a39 k40 k41, Value.int IntKind.i64 (IntKind.i64.wrap (n15 + 1))] H67)
        (M11 [Value.slice a12 k13 k14, Value.int IntKind.i64 n15] H16))) ∧
        ((!b55) = !false → Q (Value.bool false) H54)) ∧
        ((!b42 == decide (n27 ≥ 0)) = !false → Q (Value.bool false) H47)) ∧
        ((!(eqS s43 s34 && n44 == n35 && (n45 == n36 && n46 == n37))) = !false → Q (Value.bool false) H47)) ∧
        ((n17 == 0) = true →
        Triple Proofs.Try.prog 8 #[Value.agg #[Value.string s18, Value.int IntKind.i64 n19, Value.int IntKind.i64 n20, Value.int IntKind.i64 n21]]
        H33 fun v69 H70 =>
        ∃ s71 n72 n73 n74,
        v69 = Value.agg #[Value.string s71, Value.int IntKind.i64 n72, Value.int IntKind.i64 n73, Value.int IntKind.i64 n74] ∧
        Triple Proofs.Try.prog 9
        #[Value.pointer a9,
        Value.agg #[Value.string s71, Value.int IntKind.i64 n72, Value.int IntKind.i64 n73, Value.int IntKind.i64 n74]]
        H70 fun v75 H76 =>
        ∃ s77 n78 n79 n80 b81,
        v75 =
        Value.tuple
        #[Value.agg #[Value.string s77, Value.int IntKind.i64 n78, Value.int IntKind.i64 n79, Value.int IntKind.i64 n80],
        Value.bool b81] ∧
        Triple Proofs.Try.prog 10
        #[Value.slice a12 k13 k14,
        Value.agg #[Value.string s18, Value.int IntKind.i64 n19, Value.int IntKind.i64 n20, Value.int IntKind.i64 n21]]
        H76 fun v82 H83 =>
        ∃ a84 k85 k86,
        v82 = Value.slice a84 k85 k86 ∧
        R38
        [Value.slice a84 k85 k86, Value.bool b81,
        Value.agg #[Value.string s77, Value.int IntKind.i64 n78, Value.int IntKind.i64 n79, Value.int IntKind.i64 n80]]
        H83) ∧
        ((n17 == 0) = false →
        ((n17 == 1) = true →
        Triple Proofs.Try.prog 8
        #[Value.agg #[Value.string s18, Value.int IntKind.i64 n19, Value.int IntKind.i64 n20, Value.int IntKind.i64 n21]] H33 fun v87 H88 =>
        ∃ s89 n90 n91 n92,
        v87 = Value.agg #[Value.string s89, Value.int IntKind.i64 n90, Value.int IntKind.i64 n91, Value.int IntKind.i64 n92] ∧
        Triple Proofs.Try.prog 11 #[Value.pointer a9, Value.agg #[Value.string s89, Value.int IntKind.i64 n90]] H88 fun v93 H94 =>
        ∃ s95 n96 n97 n98 b99,
        v93 =
        Value.tuple
        #[Value.agg #[Value.string s95, Value.int IntKind.i64 n96, Value.int IntKind.i64 n97, Value.int IntKind.i64 n98],
        Value.bool b99] ∧
        (decide (n27 ≥ 0) = true →
        Triple Proofs.Try.prog 12 #[Value.slice a12 k13 k14, Value.int IntKind.i64 n27] H94 fun v100 H101 =>
        ∃ a102 k103 k104,
        v100 = Value.slice a102 k103 k104 ∧
        R38
        [Value.slice a102 k103 k104, Value.bool b99,
        Value.agg
        #[Value.string s95, Value.int IntKind.i64 n96, Value.int IntKind.i64 n97, Value.int IntKind.i64 n98]]
        H101) ∧
        (decide (n27 ≥ 0) = false →
        R38
        [Value.slice a12 k13 k14, Value.bool b99,
        Value.agg #[Value.string s95, Value.int IntKind.i64 n96, Value.int IntKind.i64 n97, Value.int IntKind.i64 n98]]
        H94)) ∧
        ((n17 == 1) = false →
        Triple Proofs.Try.prog 8
        #[Value.agg #[Value.string s18, Value.int IntKind.i64 n19, Value.int IntKind.i64 n20, Value.int IntKind.i64 n21]] H33
        fun v105 H106 =>
        ∃ s107 n108 n109 n110,
        v105 = Value.agg #[Value.string s107, Value.int IntKind.i64 n108, Value.int IntKind.i64 n109, Value.int IntKind.i64 n110] ∧
        Triple Proofs.Try.prog 13 #[Value.pointer a9, Value.agg #[Value.string s107, Value.int IntKind.i64 n108]] H106 fun v111 H112 =>
        ∃ s113 n114 n115 n116 b117,
        v111 =
        Value.tuple
        #[Value.agg #[Value.string s113, Value.int IntKind.i64 n114, Value.int IntKind.i64 n115, Value.int IntKind.i64 n116],
        Value.bool b117] ∧
        R38
        [Value.slice a12 k13 k14, Value.bool b117,
        Value.agg #[Value.string s113, Value.int IntKind.i64 n114, Value.int IntKind.i64 n115, Value.int IntKind.i64 n116]]
        H112))) ∧
        (decide (n27 ≥ 0) = false →
        ∃ (R118 : Rl),
        (∀ (a119 : Option Addr) (k120 k121 : Nat) (b122 : Bool) (s123 : ByteArray) (n124 n125 n126 : Int) (H127 : PHeap),
        R118
        [Value.slice a119 k120 k121, Value.bool b122,
        Value.agg #[Value.string s123, Value.int IntKind.i64 n124, Value.int IntKind.i64 n125, Value.int IntKind.i64 n126]]
        H127 →
        ((!(eqS s123 { data := #[] } && n124 == 0 && (n125 == 0 && n126 == 0))) = false →
        ((!b122 == decide (n27 ≥ 0)) = false →
        Triple Proofs.Try.prog 15 #[Value.pointer a9] H127 fun v128 H129 =>
        ∃ a130 k131 k132,
        v128 = Value.slice a130 k131 k132 ∧
        Triple Proofs.Try.prog 14 #[Value.slice a130 k131 k132, Value.slice a119 k120 k121] H129 fun v133 H134 =>
        ∃ b135,
        v133 = Value.bool b135 ∧
        ((!b135) = false →
        Triple Proofs.Try.prog 17 #[Value.pointer a9] H134 fun v136 H137 =>
        ∃ a138 k139 k140,
        v136 = Value.slice a138 k139 k140 ∧
        Triple Proofs.Try.prog 18 #[Value.slice a119 k120 k121] H137 fun v141 H142 =>
        ∃ a143 k144 k145,
        v141 = Value.slice a143 k144 k145 ∧
        Triple Proofs.Try.prog 16 #[Value.slice a138 k139 k140, Value.slice a143 k144 k145] H142 fun v146 H147 =>
        ∃ b148,
        v146 = Value.bool b148 ∧
        ((!b148) = true → Q (Value.bool false) H147) ∧
        ((!b148) = false →
        R10 [Value.slice a119 k120 k121, Value.int IntKind.i64 (IntKind.i64.wrap (n15 + 1))] H147 ∧
        Less (M11 [Value.slice a119 k120 k121, Value.int IntKind.i64 (IntKind.i64.wrap (n15 + 1))] H147)
        (M11 [Value.slice a12 k13 k14, Value.int IntKind.i64 n15] H16))) ∧
        ((!b135) = !false → Q (Value.bool false) H134)) ∧
        ((!b122 == decide (n27 ≥ 0)) = !false → Q (Value.bool false) H127)) ∧
        ((!(eqS s123 { data := #[] } && n124 == 0 && (n125 == 0 && n126 == 0))) = !false → Q (Value.bool false) H127)) ∧
        ((n17 == 0) = true →
        Triple Proofs.Try.prog 8 #[Value.agg #[Value.string s18, Value.int IntKind.i64 n19, Value.int IntKind.i64 n20, Value.int IntKind.i64 n21]] H26
        fun v149 H150 =>
        ∃ s151 n152 n153 n154,
        v149 = Value.agg #[Value.string s151, Value.int IntKind.i64 n152, Value.int IntKind.i64 n153, Value.int IntKind.i64 n154] ∧
        Triple Proofs.Try.prog 9
        #[Value.pointer a9, Value.agg #[Value.string s151, Value.int IntKind.i64 n152, Value.int IntKind.i64 n153, Value.int IntKind.i64 n154]] H150
        fun v155 H156 =>
        ∃ s157 n158 n159 n160 b161,
        v155 =
        Value.tuple
        #[Value.agg #[Value.string s157, Value.int IntKind.i64 n158, Value.int IntKind.i64 n159, Value.int IntKind.i64 n160],
        Value.bool b161] ∧
        Triple Proofs.Try.prog 10
        #[Value.slice a12 k13 k14,
        Value.agg #[Value.string s18, Value.int IntKind.i64 n19, Value.int IntKind.i64 n20, Value.int IntKind.i64 n21]]
        H156 fun v162 H163 =>
        ∃ a164 k165 k166,
        v162 = Value.slice a164 k165 k166 ∧
        R118
        [Value.slice a164 k165 k166, Value.bool b161,
        Value.agg #[Value.string s157, Value.int IntKind.i64 n158, Value.int IntKind.i64 n159, Value.int IntKind.i64 n160]]
        H163) ∧
        ((n17 == 0) = false →
        ((n17 == 1) = true →
        Triple Proofs.Try.prog 8 #[Value.agg #[Value.string s18, Value.int IntKind.i64 n19, Value.int IntKind.i64 n20, Value.int IntKind.i64 n21]] H26
        fun v167 H168 =>
        ∃ s169 n170 n171 n172,
        v167 = Value.agg #[Value.string s169, Value.int IntKind.i64 n170, Value.int IntKind.i64 n171, Value.int IntKind.i64 n172] ∧
        Triple Proofs.Try.prog 11 #[Value.pointer a9, Value.agg #[Value.string s169, Value.int IntKind.i64 n170]] H168 fun v173 H174 =>
        ∃ s175 n176 n177 n178 b179,
        v173 =
        Value.tuple
        #[Value.agg #[Value.string s175, Value.int IntKind.i64 n176, Value.int IntKind.i64 n177, Value.int IntKind.i64 n178],
        Value.bool b179] ∧
        (decide (n27 ≥ 0) = true →
        Triple Proofs.Try.prog 12 #[Value.slice a12 k13 k14, Value.int IntKind.i64 n27] H174 fun v180 H181 =>
        ∃ a182 k183 k184,
        v180 = Value.slice a182 k183 k184 ∧
        R118
        [Value.slice a182 k183 k184, Value.bool b179,
        Value.agg #[Value.string s175, Value.int IntKind.i64 n176, Value.int IntKind.i64 n177, Value.int IntKind.i64 n178]]
        H181) ∧
        (decide (n27 ≥ 0) = false →
        R118
        [Value.slice a12 k13 k14, Value.bool b179,
        Value.agg #[Value.string s175, Value.int IntKind.i64 n176, Value.int IntKind.i64 n177, Value.int IntKind.i64 n178]]
        H174)) ∧
        ((n17 == 1) = false →
        Triple Proofs.Try.prog 8 #[Value.agg #[Value.string s18, Value.int IntKind.i64 n19, Value.int IntKind.i64 n20, Value.int IntKind.i64 n21]] H26
        fun v185 H186 =>
        ∃ s187 n188 n189 n190,
        v185 = Value.agg #[Value.string s187, Value.int IntKind.i64 n188, Value.int IntKind.i64 n189, Value.int IntKind.i64 n190] ∧
        Triple Proofs.Try.prog 13 #[Value.pointer a9, Value.agg #[Value.string s187, Value.int IntKind.i64 n188]] H186 fun v191 H192 =>
        ∃ s193 n194 n195 n196 b197,
        v191 =
        Value.tuple
        #[Value.agg #[Value.string s193, Value.int IntKind.i64 n194, Value.int IntKind.i64 n195, Value.int IntKind.i64 n196],
        Value.bool b197] ∧
        R118
        [Value.slice a12 k13 k14, Value.bool b197,
        Value.agg #[Value.string s193, Value.int IntKind.i64 n194, Value.int IntKind.i64 n195, Value.int IntKind.i64 n196]]
        H192))))) ∧
        (decide (n15 < (↑k2 : Int)) = false → Triple Proofs.Try.prog 5 #[] H16 fun v198 H199 => ∃ b200, v198 = Value.bool b200 ∧ Q (Value.bool b200) H199))) :
    Triple Go.Proofs.Try.prog 3 ([Value.slice a1 k2 k3]).toArray H Q :=
  Triple.of_vc lawPlays.cx (by kernel_rfl) h

theorem lawOwn.vc (s1 : ByteArray) (n2 : Int) (n3 : Int) (n4 : Int) (s5 : ByteArray) (n6 : Int) (n7 : Int) (n8 : Int) (H : PHeap) (Q : Value → PHeap → Prop)
    (h : Triple Proofs.Try.prog 6 #[] H fun v9 H10 =>
  ∃ a11,
    v9 = Value.pointer a11 ∧
      Triple Proofs.Try.prog 8 #[Value.agg #[Value.string s1, Value.int IntKind.i64 n2, Value.int IntKind.i64 n3, Value.int IntKind.i64 n4]] H10 fun v12 H13 =>
        ∃ s14 n15 n16 n17,
        v12 = Value.agg #[Value.string s14, Value.int IntKind.i64 n15, Value.int IntKind.i64 n16, Value.int IntKind.i64 n17] ∧
        Triple Proofs.Try.prog 9 #[Value.pointer a11, Value.agg #[Value.string s14, Value.int IntKind.i64 n15, Value.int IntKind.i64 n16, Value.int IntKind.i64 n17]] H13 fun v18 H19 =>
        ∃ s20 n21 n22 n23 b24,
        v18 = Value.tuple #[Value.agg #[Value.string s20, Value.int IntKind.i64 n21, Value.int IntKind.i64 n22, Value.int IntKind.i64 n23], Value.bool b24] ∧
        Triple Proofs.Try.prog 15 #[Value.pointer a11] H19 fun v25 H26 =>
        ∃ a27 k28 k29,
        v25 = Value.slice a27 k28 k29 ∧
        Triple Proofs.Try.prog 15 #[Value.pointer a11] H26 fun v30 H31 =>
        ∃ a32 k33 k34,
        v30 = Value.slice a32 k33 k34 ∧
        (((↑k33 : Int) != 1) = true → Q (Value.bool false) H31) ∧
        (((↑k33 : Int) != 1) = false →
        Ob (a32 ≠ none ∧ (0 : Int) ≤ 0 ∧ 0 < (↑k33 : Int)) ∧
        Ob (elemA a32 0 4 ≠ none) ∧
        ∃ n35,
        Reads H31 (fldA (elemA a32 0 4) 2) [Value.int IntKind.i64 n35] ∧
        Ob (a32 ≠ none ∧ (0 : Int) ≤ 0 ∧ 0 < (↑k33 : Int)) ∧
        Ob (elemA a32 0 4 ≠ none) ∧
        ∃ H36,
        Writes H31 H36 (fldA (elemA a32 0 4) 2) [Value.int IntKind.i64 (IntKind.i64.wrap (n35 + 1))] ∧
        Triple Proofs.Try.prog 19 #[Value.pointer a11] H36 fun v37 H38 =>
        ∃ a39,
        v37 = Value.pointer a39 ∧
        Triple Proofs.Try.prog 8 #[Value.agg #[Value.string s5, Value.int IntKind.i64 n6, Value.int IntKind.i64 n7, Value.int IntKind.i64 n8]] H38
        fun v40 H41 =>
        ∃ s42 n43 n44 n45,
        v40 = Value.agg #[Value.string s42, Value.int IntKind.i64 n43, Value.int IntKind.i64 n44, Value.int IntKind.i64 n45] ∧
        Triple Proofs.Try.prog 9
        #[Value.pointer a39, Value.agg #[Value.string s42, Value.int IntKind.i64 n43, Value.int IntKind.i64 n44, Value.int IntKind.i64 n45]] H41
        fun v46 H47 =>
        ∃ s48 n49 n50 n51 b52,
        v46 =
        Value.tuple
        #[Value.agg #[Value.string s48, Value.int IntKind.i64 n49, Value.int IntKind.i64 n50, Value.int IntKind.i64 n51],
        Value.bool b52] ∧
        Triple Proofs.Try.prog 8
        #[Value.agg #[Value.string s1, Value.int IntKind.i64 n2, Value.int IntKind.i64 n3, Value.int IntKind.i64 n4]] H47 fun v53 H54 =>
        ∃ s55 n56 n57 n58,
        v53 = Value.agg #[Value.string s55, Value.int IntKind.i64 n56, Value.int IntKind.i64 n57, Value.int IntKind.i64 n58] ∧
        Triple Proofs.Try.prog 11 #[Value.pointer a39, Value.agg #[Value.string s55, Value.int IntKind.i64 n56]] H54 fun v59 H60 =>
        ∃ s61 n62 n63 n64 b65,
        v59 =
        Value.tuple
        #[Value.agg #[Value.string s61, Value.int IntKind.i64 n62, Value.int IntKind.i64 n63, Value.int IntKind.i64 n64],
        Value.bool b65] ∧
        Triple Proofs.Try.prog 8
        #[Value.agg #[Value.string s1, Value.int IntKind.i64 n2, Value.int IntKind.i64 n3, Value.int IntKind.i64 n4]] H60
        fun v66 H67 =>
        ∃ s68 n69 n70 n71,
        v66 =
        Value.agg #[Value.string s68, Value.int IntKind.i64 n69, Value.int IntKind.i64 n70, Value.int IntKind.i64 n71] ∧
        Triple Proofs.Try.prog 9
        #[Value.pointer none,
        Value.agg
        #[Value.string s68, Value.int IntKind.i64 n69, Value.int IntKind.i64 n70, Value.int IntKind.i64 n71]]
        H67 fun v72 H73 =>
        ∃ s74 n75 n76 n77 b78,
        v72 =
        Value.tuple
        #[Value.agg
        #[Value.string s74, Value.int IntKind.i64 n75, Value.int IntKind.i64 n76,
        Value.int IntKind.i64 n77],
        Value.bool b78] ∧
        Triple Proofs.Try.prog 8
        #[Value.agg
        #[Value.string s1, Value.int IntKind.i64 n2, Value.int IntKind.i64 n3, Value.int IntKind.i64 n4]]
        H73 fun v79 H80 =>
        ∃ s81 n82 n83 n84,
        v79 =
        Value.agg
        #[Value.string s81, Value.int IntKind.i64 n82, Value.int IntKind.i64 n83,
        Value.int IntKind.i64 n84] ∧
        Triple Proofs.Try.prog 11
        #[Value.pointer none, Value.agg #[Value.string s81, Value.int IntKind.i64 n82]] H80 fun v85 H86 =>
        ∃ s87 n88 n89 n90 b91,
        v85 =
        Value.tuple
        #[Value.agg
        #[Value.string s87, Value.int IntKind.i64 n88, Value.int IntKind.i64 n89,
        Value.int IntKind.i64 n90],
        Value.bool b91] ∧
        Triple Proofs.Try.prog 8
        #[Value.agg
        #[Value.string s1, Value.int IntKind.i64 n2, Value.int IntKind.i64 n3,
        Value.int IntKind.i64 n4]]
        H86 fun v92 H93 =>
        ∃ s94 n95 n96 n97,
        v92 =
        Value.agg
        #[Value.string s94, Value.int IntKind.i64 n95, Value.int IntKind.i64 n96,
        Value.int IntKind.i64 n97] ∧
        Triple Proofs.Try.prog 13
        #[Value.pointer none, Value.agg #[Value.string s94, Value.int IntKind.i64 n95]] H93
        fun v98 H99 =>
        ∃ s100 n101 n102 n103 b104,
        v98 =
        Value.tuple
        #[Value.agg
        #[Value.string s100, Value.int IntKind.i64 n101, Value.int IntKind.i64 n102,
        Value.int IntKind.i64 n103],
        Value.bool b104] ∧
        Triple Proofs.Try.prog 15 #[Value.pointer a11] H99 fun v105 H106 =>
        ∃ a107 k108 k109,
        v105 = Value.slice a107 k108 k109 ∧
        ∃ H110,
        Vx.Sub H110 H106 ∧
        (((↑k108 : Int) == 1) = true →
        Ob (a107 ≠ none ∧ (0 : Int) ≤ 0 ∧ 0 < (↑k108 : Int)) ∧
        ∃ s111 n112 n113 n114,
        Reads H110 (elemA a107 0 4)
        [Value.string s111, Value.int IntKind.i64 n112,
        Value.int IntKind.i64 n113, Value.int IntKind.i64 n114] ∧
        Ob (a27 ≠ none ∧ (0 : Int) ≤ 0 ∧ 0 < (↑k28 : Int)) ∧
        ∃ s115 n116 n117 n118,
        Reads H110 (elemA a27 0 4)
        [Value.string s115, Value.int IntKind.i64 n116,
        Value.int IntKind.i64 n117,
        Value.int IntKind.i64 n118] ∧
        ((eqS s111 s115 && n112 == n116 &&
        (n113 == n117 && n114 == n118)) =
        true →
        ((!b78) = true →
        ((!b91) = true →
        ((!b104) = true →
        Triple Proofs.Try.prog 15
        #[Value.pointer none] H106
        fun v119 H120 =>
        ∃ a121 k122 k123,
        v119 = Value.slice a121 k122 k123 ∧
        Triple Proofs.Try.prog 17
        #[Value.pointer none] H120
        fun v124 H125 =>
        ∃ a126 k127 k128,
        v124 =
        Value.slice a126 k127 k128 ∧
        ((IntKind.i64.wrap
        ((↑k122 : Int) +
        (↑k127 : Int)) ==
        0) =
        true →
        Triple Proofs.Try.prog 19
        #[Value.pointer none]
        H125 fun v129 H130 =>
        ∃ a131,
        v129 =
        Value.pointer
        a131 ∧
        (a131.isNone =
        true →
        Triple
        Proofs.Try.prog
        5 #[] H130
        fun v132
        H133 =>
        ∃ b134,
        v132 =
        Value.bool
        b134 ∧
        Q
        (Value.bool
        b134)
        H133) ∧
        (a131.isNone =
        !true →
        Q
        (Value.bool
        false)
        H130)) ∧
        ((IntKind.i64.wrap
        ((↑k122 : Int) +
        (↑k127 : Int)) ==
        0) =
        !true →
        Q (Value.bool false)
        H125)) ∧
        ((!b104) = !true →
        Q (Value.bool false) H106)) ∧
        ((!b91) = !true → Q (Value.bool false) H106)) ∧
        ((!b78) = !true → Q (Value.bool false) H106)) ∧
        ((eqS s111 s115 && n112 == n116 &&
        (n113 == n117 && n114 == n118)) =
        !true →
        Q (Value.bool false) H106)) ∧
        (((↑k108 : Int) == 1) = !true → Q (Value.bool false) H106))) :
    Triple Go.Proofs.Try.prog 4 ([Value.agg #[Value.string s1, Value.int IntKind.i64 n2, Value.int IntKind.i64 n3, Value.int IntKind.i64 n4],
  Value.agg #[Value.string s5, Value.int IntKind.i64 n6, Value.int IntKind.i64 n7, Value.int IntKind.i64 n8]]).toArray H Q :=
  Triple.of_vc lawOwn.cx (by kernel_rfl) h

end Go.Vc
