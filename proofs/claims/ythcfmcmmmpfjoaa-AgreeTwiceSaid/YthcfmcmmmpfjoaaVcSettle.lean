/- What is to be shown of each function, in its normal form. Printed by a program of this session's, checked by the kernel. -/
import Derived.Test.YthcfmcmmmpfjoaaE2
import Derived.Test.YthcfmcmmmpfjoaaProg
set_option linter.unusedVariables false
set_option maxRecDepth 100000
namespace Go.Vc
open Go.Vx Go
def sSettle.cx : Cx := ⟨[5], [(5, [20], []), (15, [72], [])], [], []⟩
def sSettle1.cx : Cx := ⟨[], [], [], []⟩
def sValue.cx : Cx := ⟨[], [], [], []⟩
def sCount.cx : Cx := ⟨[], [(3, [5, 12], []), (6, [18], [])], [], []⟩
def sSound.cx : Cx := ⟨[], [], [], []⟩
def sLeft.cx : Cx := ⟨[], [], [], []⟩
def sMarked.cx : Cx := ⟨[], [], [], []⟩
def sHold.cx : Cx := ⟨[], [(3, [5, 10], [])], [], []⟩
def sWho.cx : Cx := ⟨[], [], [], []⟩
def fixOf.cx : Cx := ⟨[], [], [], []⟩
def rSettle.cx : Cx := ⟨[5], [(5, [6], []), (16, [7, 8, 9, 10], [])], [], []⟩
def rHold.cx : Cx := ⟨[], [(3, [5, 6], [])], [], []⟩
def rHolds.cx : Cx := ⟨[], [], [], []⟩
def rMarked.cx : Cx := ⟨[], [], [], []⟩
def rWho.cx : Cx := ⟨[], [], [], []⟩

theorem sSettle.vc (n1 : Int) (n2 : Int) (n3 : Int) (n4 : Int) (n5 : Int) (n6 : Int) (a7 : Option Addr) (k8 : Nat) (k9 : Nat) (H : PHeap) (Q : Value → PHeap → Prop)
    (h : ∀ (k10 : Nat),
  H k10 = none →
    Triple Proofs.Try.prog 39 #[Value.agg #[Value.int IntKind.i64 n1, Value.int IntKind.i64 n2, Value.int IntKind.i64 n3, Value.int IntKind.i64 n4, Value.int IntKind.i64 n5, Value.int IntKind.i64 n6]]
      (H.upd k10
        (Obj.cells #[Value.bool false, Value.bool false, Value.bool false, Value.int IntKind.i64 0, Value.int IntKind.i64 0, Value.int IntKind.i64 0, Value.int IntKind.i64 0, Value.slice none 0 0]
        81))
      fun v11 H12 =>
      ∃ b13,
        v11 = Value.bool b13 ∧
        ((!b13) = true →
        ∃ b14 b15 b16 n17 n18 n19 n20 a21 k22 k23,
        Reads H12 (at0 k10)
        [Value.bool b14, Value.bool b15, Value.bool b16, Value.int IntKind.i64 n17, Value.int IntKind.i64 n18, Value.int IntKind.i64 n19, Value.int IntKind.i64 n20,
        Value.slice a21 k22 k23] ∧
        Q
        (Value.agg
        #[Value.bool b14, Value.bool b15, Value.bool b16, Value.int IntKind.i64 n17, Value.int IntKind.i64 n18, Value.int IntKind.i64 n19, Value.int IntKind.i64 n20,
        Value.slice a21 k22 k23])
        H12) ∧
        ((!b13) = false →
        ∃ (R24 : Rl) (M25 : Mu),
        R24 [Value.int IntKind.i64 0] H12 ∧
        ∀ (n26 : Int) (H27 : PHeap),
        R24 [Value.int IntKind.i64 n26] H27 →
        (decide (n26 < (↑k8 : Int)) = true →
        Ob (a7 ≠ none ∧ 0 ≤ n26 ∧ n26 < (↑k8 : Int)) ∧
        ∃ n28 n29 n30 n31 s32 n33 n34 n35 n36 n37 a38 k39 k40 a41 k42 k43 a44 k45 k46,
        Reads H27 (elemA a7 n26 13)
        [Value.int IntKind.i64 n28, Value.int IntKind.i64 n29, Value.int IntKind.i64 n30, Value.int IntKind.i64 n31, Value.string s32, Value.int IntKind.i64 n33,
        Value.int IntKind.i64 n34, Value.int IntKind.i64 n35, Value.int IntKind.i64 n36, Value.int IntKind.i64 n37, Value.slice a38 k39 k40, Value.slice a41 k42 k43,
        Value.slice a44 k45 k46] ∧
        Triple Proofs.Try.prog 62
        #[Value.agg
        #[Value.int IntKind.i64 n28, Value.int IntKind.i64 n29, Value.int IntKind.i64 n30, Value.int IntKind.i64 n31, Value.string s32, Value.int IntKind.i64 n33,
        Value.int IntKind.i64 n34, Value.int IntKind.i64 n35, Value.int IntKind.i64 n36, Value.int IntKind.i64 n37, Value.slice a38 k39 k40, Value.slice a41 k42 k43,
        Value.slice a44 k45 k46]]
        H27 fun v47 H48 =>
        ∃ b49 n50 n51 n52 b53,
        v47 = Value.tuple #[Value.agg #[Value.bool b49, Value.int IntKind.i64 n50, Value.int IntKind.i64 n51, Value.int IntKind.i64 n52], Value.bool b53] ∧
        (b53 = true →
        Ob (at0 k10 ≠ none) ∧
        ∃ n54,
        Reads H48 (fldA (at0 k10) 6) [Value.int IntKind.i64 n54] ∧
        (decide (n35 > n54) = true →
        ∃ H55,
        Vx.Sub H55 H48 ∧
        Ob (at0 k10 ≠ none) ∧
        ∃ H56,
        Writes H48 H56 (fldA (at0 k10) 6) [Value.int IntKind.i64 n35] ∧
        Vx.Sub H55 H56 ∧
        Ob (at0 k10 ≠ none) ∧
        ∃ H57,
        Writes H56 H57 (fldA (at0 k10) 2)
        [Value.bool b49, Value.int IntKind.i64 n50, Value.int IntKind.i64 n51, Value.int IntKind.i64 n52] ∧
        R24 [Value.int IntKind.i64 (IntKind.i64.wrap (n26 + 1))] H57 ∧
        Less (M25 [Value.int IntKind.i64 (IntKind.i64.wrap (n26 + 1))] H57) (M25 [Value.int IntKind.i64 n26] H27)) ∧
        (decide (n35 > n54) = false →
        R24 [Value.int IntKind.i64 (IntKind.i64.wrap (n26 + 1))] H48 ∧
        Less (M25 [Value.int IntKind.i64 (IntKind.i64.wrap (n26 + 1))] H48) (M25 [Value.int IntKind.i64 n26] H27))) ∧
        (b53 = !true →
        R24 [Value.int IntKind.i64 (IntKind.i64.wrap (n26 + 1))] H48 ∧
        Less (M25 [Value.int IntKind.i64 (IntKind.i64.wrap (n26 + 1))] H48) (M25 [Value.int IntKind.i64 n26] H27))) ∧
        (decide (n26 < (↑k8 : Int)) = false →
        ∃ H58,
        Vx.Sub H58 H27 ∧
        ∀ (k59 : Nat),
        H27 k59 = none →
        Vx.Sub H58 (H27.upd k59 (Obj.cells #[Value.func (Fn.func 65) #[] #[]] 60)) ∧
        Triple Proofs.Try.prog 64 #[Value.slice a7 k8 k9, Value.slice (at0 k59) 1 1] (H27.upd k59 (Obj.cells #[Value.func (Fn.func 65) #[] #[]] 60))
        fun v60 H61 =>
        ∃ n62,
        v60 = Value.int IntKind.i64 n62 ∧
        Vx.Sub H58 H61 ∧
        Triple Proofs.Try.prog 66
        #[Value.agg
        #[Value.int IntKind.i64 n1, Value.int IntKind.i64 n2, Value.int IntKind.i64 n3, Value.int IntKind.i64 n4, Value.int IntKind.i64 n5,
        Value.int IntKind.i64 n6]]
        H61 fun v63 H64 =>
        ∃ n65,
        v63 = Value.int IntKind.i64 n65 ∧
        Ob (at0 k10 ≠ none) ∧
        ∃ H66,
        Writes H64 H66 (fldA (at0 k10) 0) [Value.bool (decide (n62 ≥ n65))] ∧
        ∃ H67,
        Vx.Sub H67 H66 ∧
        ∀ (k68 : Nat),
        H66 k68 = none →
        Vx.Sub H67 (H66.upd k68 (Obj.cells #[Value.func (Fn.func 67) #[] #[]] 60)) ∧
        Triple Proofs.Try.prog 64 #[Value.slice a7 k8 k9, Value.slice (at0 k68) 1 1]
        (H66.upd k68 (Obj.cells #[Value.func (Fn.func 67) #[] #[]] 60)) fun v69 H70 =>
        ∃ n71,
        v69 = Value.int IntKind.i64 n71 ∧
        Vx.Sub H67 H70 ∧
        ((n71 == 0) = true →
        Ob (at0 k10 ≠ none) ∧
        ∃ n72,
        Reads H67 (fldA (at0 k10) 6) [Value.int IntKind.i64 n72] ∧
        ((n72 == 0) = false →
        ∀ (k73 : Nat),
        H70 k73 = none →
        Vx.Sub H67
        (H70.upd k73
        (Obj.cells
        #[Value.func (Fn.func 68) #[] #[],
        Value.func (Fn.func 63) #[] #[Value.pointer (at0 k10)]]
        60)) ∧
        Triple Proofs.Try.prog 64 #[Value.slice a7 k8 k9, Value.slice (at0 k73) 2 2]
        (H70.upd k73
        (Obj.cells
        #[Value.func (Fn.func 68) #[] #[],
        Value.func (Fn.func 63) #[] #[Value.pointer (at0 k10)]]
        60))
        fun v74 H75 =>
        ∃ n76,
        v74 = Value.int IntKind.i64 n76 ∧
        Vx.Sub H67 H75 ∧
        Ob (at0 k10 ≠ none) ∧
        ∃ H77,
        Writes H75 H77 (fldA (at0 k10) 1) [Value.bool (decide (n76 ≥ n4))] ∧
        ∃ (R78 : Rl) (M79 : Mu),
        R78 [Value.int IntKind.i64 0] H77 ∧
        ∀ (n80 : Int) (H81 : PHeap),
        R78 [Value.int IntKind.i64 n80] H81 →
        (decide (n80 < (↑k8 : Int)) = true →
        Ob (a7 ≠ none ∧ 0 ≤ n80 ∧ n80 < (↑k8 : Int)) ∧
        ∃ n82 n83 n84 n85 s86 n87 n88 n89 n90 n91 a92 k93 k94 a95 k96 k97 a98 k99
        k100,
        Reads H81 (elemA a7 n80 13)
        [Value.int IntKind.i64 n82, Value.int IntKind.i64 n83,
        Value.int IntKind.i64 n84, Value.int IntKind.i64 n85,
        Value.string s86, Value.int IntKind.i64 n87,
        Value.int IntKind.i64 n88, Value.int IntKind.i64 n89,
        Value.int IntKind.i64 n90, Value.int IntKind.i64 n91,
        Value.slice a92 k93 k94, Value.slice a95 k96 k97,
        Value.slice a98 k99 k100] ∧
        ((n82 == 14) = true →
        ∀ (k101 : Nat),
        H81 k101 = none →
        Ob (at0 k10 ≠ none) ∧
        ∃ b102 n103 n104 n105,
        Reads
        (H81.upd k101
        (Obj.cells
        #[Value.int IntKind.i64 n82,
        Value.int IntKind.i64 n83,
        Value.int IntKind.i64 n84,
        Value.int IntKind.i64 n85, Value.string s86,
        Value.int IntKind.i64 n87,
        Value.int IntKind.i64 n88,
        Value.int IntKind.i64 n89,
        Value.int IntKind.i64 n90,
        Value.int IntKind.i64 n91, Value.slice a92 k93 k94,
        Value.slice a95 k96 k97, Value.slice a98 k99 k100]
        32))
        (fldA (at0 k10) 2)
        [Value.bool b102, Value.int IntKind.i64 n103,
        Value.int IntKind.i64 n104,
        Value.int IntKind.i64 n105] ∧
        Triple Proofs.Try.prog 69
        #[Value.slice (at0 k101) 1 1,
        Value.agg
        #[Value.bool b102, Value.int IntKind.i64 n103,
        Value.int IntKind.i64 n104,
        Value.int IntKind.i64 n105]]
        (H81.upd k101
        (Obj.cells
        #[Value.int IntKind.i64 n82,
        Value.int IntKind.i64 n83,
        Value.int IntKind.i64 n84,
        Value.int IntKind.i64 n85, Value.string s86,
        Value.int IntKind.i64 n87,
        Value.int IntKind.i64 n88,
        Value.int IntKind.i64 n89,
        Value.int IntKind.i64 n90,
        Value.int IntKind.i64 n91, Value.slice a92 k93 k94,
        Value.slice a95 k96 k97, Value.slice a98 k99 k100]
        32))
        fun v106 H107 =>
        ∃ a108 k109 k110,
        v106 = Value.slice a108 k109 k110 ∧
        Ob (at0 k10 ≠ none) ∧
        ∃ a111 k112 k113,
        Reads H107
        (fldA (at0 k10) 7)
        [Value.slice a111 k112 k113] ∧
        EvV Proofs.Try.prog
        (Builtin.append_ #[29, 29] 29
        #[Value.slice a111 k112 k113,
        Value.slice a108 k109 k110])
        H107 fun v114 H115 =>
        ∃ a116 k117 k118,
        v114 = Value.slice a116 k117 k118 ∧
        Ob
        (at0 k10 ≠
        none) ∧
        ∃ H119,
        Writes H115 H119
        (fldA
        (at0 k10)
        7)
        [Value.slice a116 k117 k118] ∧
        R78
        [Value.int IntKind.i64
        (IntKind.i64.wrap
        (n80 + 1))]
        H119 ∧
        Less
        (M79
        [Value.int IntKind.i64
        (IntKind.i64.wrap
        (n80 + 1))]
        H119)
        (M79 [Value.int IntKind.i64 n80]
        H81)) ∧
        ((n82 == 14) = false →
        R78 [Value.int IntKind.i64 (IntKind.i64.wrap (n80 + 1))] H81 ∧
        Less (M79 [Value.int IntKind.i64 (IntKind.i64.wrap (n80 + 1))] H81)
        (M79 [Value.int IntKind.i64 n80] H81))) ∧
        (decide (n80 < (↑k8 : Int)) = false →
        ∃ b120 b121 b122 n123 n124 n125 n126 a127 k128 k129,
        Reads H81 (at0 k10)
        [Value.bool b120, Value.bool b121, Value.bool b122,
        Value.int IntKind.i64 n123, Value.int IntKind.i64 n124,
        Value.int IntKind.i64 n125, Value.int IntKind.i64 n126,
        Value.slice a127 k128 k129] ∧
        Q
        (Value.agg
        #[Value.bool b120, Value.bool b121, Value.bool b122,
        Value.int IntKind.i64 n123, Value.int IntKind.i64 n124,
        Value.int IntKind.i64 n125, Value.int IntKind.i64 n126,
        Value.slice a127 k128 k129])
        H81)) ∧
        ((n72 == 0) = !false →
        Ob (at0 k10 ≠ none) ∧
        ∃ H130,
        Writes H70 H130 (fldA (at0 k10) 1) [Value.bool true] ∧
        ∃ (R131 : Rl) (M132 : Mu),
        R131 [Value.int IntKind.i64 0] H130 ∧
        ∀ (n133 : Int) (H134 : PHeap),
        R131 [Value.int IntKind.i64 n133] H134 →
        (decide (n133 < (↑k8 : Int)) = true →
        Ob (a7 ≠ none ∧ 0 ≤ n133 ∧ n133 < (↑k8 : Int)) ∧
        ∃ n135 n136 n137 n138 s139 n140 n141 n142 n143 n144 a145 k146 k147 a148 k149 k150 a151 k152
        k153,
        Reads H134 (elemA a7 n133 13)
        [Value.int IntKind.i64 n135, Value.int IntKind.i64 n136, Value.int IntKind.i64 n137,
        Value.int IntKind.i64 n138, Value.string s139, Value.int IntKind.i64 n140,
        Value.int IntKind.i64 n141, Value.int IntKind.i64 n142, Value.int IntKind.i64 n143,
        Value.int IntKind.i64 n144, Value.slice a145 k146 k147, Value.slice a148 k149 k150,
        Value.slice a151 k152 k153] ∧
        ((n135 == 14) = true →
        ∀ (k154 : Nat),
        H134 k154 = none →
        Ob (at0 k10 ≠ none) ∧
        ∃ b155 n156 n157 n158,
        Reads
        (H134.upd k154
        (Obj.cells
        #[Value.int IntKind.i64 n135, Value.int IntKind.i64 n136,
        Value.int IntKind.i64 n137, Value.int IntKind.i64 n138,
        Value.string s139, Value.int IntKind.i64 n140,
        Value.int IntKind.i64 n141, Value.int IntKind.i64 n142,
        Value.int IntKind.i64 n143, Value.int IntKind.i64 n144,
        Value.slice a145 k146 k147, Value.slice a148 k149 k150,
        Value.slice a151 k152 k153]
        32))
        (fldA (at0 k10) 2)
        [Value.bool b155, Value.int IntKind.i64 n156,
        Value.int IntKind.i64 n157, Value.int IntKind.i64 n158] ∧
        Triple Proofs.Try.prog 69
        #[Value.slice (at0 k154) 1 1,
        Value.agg
        #[Value.bool b155, Value.int IntKind.i64 n156,
        Value.int IntKind.i64 n157, Value.int IntKind.i64 n158]]
        (H134.upd k154
        (Obj.cells
        #[Value.int IntKind.i64 n135, Value.int IntKind.i64 n136,
        Value.int IntKind.i64 n137, Value.int IntKind.i64 n138,
        Value.string s139, Value.int IntKind.i64 n140,
        Value.int IntKind.i64 n141, Value.int IntKind.i64 n142,
        Value.int IntKind.i64 n143, Value.int IntKind.i64 n144,
        Value.slice a145 k146 k147, Value.slice a148 k149 k150,
        Value.slice a151 k152 k153]
        32))
        fun v159 H160 =>
        ∃ a161 k162 k163,
        v159 = Value.slice a161 k162 k163 ∧
        Ob (at0 k10 ≠ none) ∧
        ∃ a164 k165 k166,
        Reads H160 (fldA (at0 k10) 7)
        [Value.slice a164 k165 k166] ∧
        EvV Proofs.Try.prog
        (Builtin.append_ #[29, 29] 29
        #[Value.slice a164 k165 k166, Value.slice a161 k162 k163])
        H160 fun v167 H168 =>
        ∃ a169 k170 k171,
        v167 = Value.slice a169 k170 k171 ∧
        Ob (at0 k10 ≠ none) ∧
        ∃ H172,
        Writes H168 H172
        (fldA (at0 k10) 7)
        [Value.slice a169 k170 k171] ∧
        R131
        [Value.int IntKind.i64
        (IntKind.i64.wrap (n133 + 1))]
        H172 ∧
        Less
        (M132
        [Value.int IntKind.i64
        (IntKind.i64.wrap (n133 + 1))]
        H172)
        (M132 [Value.int IntKind.i64 n133] H134)) ∧
        ((n135 == 14) = false →
        R131 [Value.int IntKind.i64 (IntKind.i64.wrap (n133 + 1))] H134 ∧
        Less (M132 [Value.int IntKind.i64 (IntKind.i64.wrap (n133 + 1))] H134)
        (M132 [Value.int IntKind.i64 n133] H134))) ∧
        (decide (n133 < (↑k8 : Int)) = false →
        ∃ b173 b174 b175 n176 n177 n178 n179 a180 k181 k182,
        Reads H134 (at0 k10)
        [Value.bool b173, Value.bool b174, Value.bool b175, Value.int IntKind.i64 n176,
        Value.int IntKind.i64 n177, Value.int IntKind.i64 n178, Value.int IntKind.i64 n179,
        Value.slice a180 k181 k182] ∧
        Q
        (Value.agg
        #[Value.bool b173, Value.bool b174, Value.bool b175, Value.int IntKind.i64 n176,
        Value.int IntKind.i64 n177, Value.int IntKind.i64 n178, Value.int IntKind.i64 n179,
        Value.slice a180 k181 k182])
        H134))) ∧
        ((n71 == 0) = !true →
        Ob (at0 k10 ≠ none) ∧
        ∃ H183,
        Writes H70 H183 (fldA (at0 k10) 1) [Value.bool false] ∧
        ∃ (R184 : Rl) (M185 : Mu),
        R184 [Value.int IntKind.i64 0] H183 ∧
        ∀ (n186 : Int) (H187 : PHeap),
        R184 [Value.int IntKind.i64 n186] H187 →
        (decide (n186 < (↑k8 : Int)) = true →
        Ob (a7 ≠ none ∧ 0 ≤ n186 ∧ n186 < (↑k8 : Int)) ∧
        ∃ n188 n189 n190 n191 s192 n193 n194 n195 n196 n197 a198 k199 k200 a201 k202 k203 a204 k205 k206,
        Reads H187 (elemA a7 n186 13)
        [Value.int IntKind.i64 n188, Value.int IntKind.i64 n189, Value.int IntKind.i64 n190,
        Value.int IntKind.i64 n191, Value.string s192, Value.int IntKind.i64 n193,
        Value.int IntKind.i64 n194, Value.int IntKind.i64 n195, Value.int IntKind.i64 n196,
        Value.int IntKind.i64 n197, Value.slice a198 k199 k200, Value.slice a201 k202 k203,
        Value.slice a204 k205 k206] ∧
        ((n188 == 14) = true →
        ∀ (k207 : Nat),
        H187 k207 = none →
        Ob (at0 k10 ≠ none) ∧
        ∃ b208 n209 n210 n211,
        Reads
        (H187.upd k207
        (Obj.cells
        #[Value.int IntKind.i64 n188, Value.int IntKind.i64 n189,
        Value.int IntKind.i64 n190, Value.int IntKind.i64 n191, Value.string s192,
        Value.int IntKind.i64 n193, Value.int IntKind.i64 n194,
        Value.int IntKind.i64 n195, Value.int IntKind.i64 n196,
        Value.int IntKind.i64 n197, Value.slice a198 k199 k200,
        Value.slice a201 k202 k203, Value.slice a204 k205 k206]
        32))
        (fldA (at0 k10) 2)
        [Value.bool b208, Value.int IntKind.i64 n209, Value.int IntKind.i64 n210,
        Value.int IntKind.i64 n211] ∧
        Triple Proofs.Try.prog 69
        #[Value.slice (at0 k207) 1 1,
        Value.agg
        #[Value.bool b208, Value.int IntKind.i64 n209, Value.int IntKind.i64 n210,
        Value.int IntKind.i64 n211]]
        (H187.upd k207
        (Obj.cells
        #[Value.int IntKind.i64 n188, Value.int IntKind.i64 n189,
        Value.int IntKind.i64 n190, Value.int IntKind.i64 n191, Value.string s192,
        Value.int IntKind.i64 n193, Value.int IntKind.i64 n194,
        Value.int IntKind.i64 n195, Value.int IntKind.i64 n196,
        Value.int IntKind.i64 n197, Value.slice a198 k199 k200,
        Value.slice a201 k202 k203, Value.slice a204 k205 k206]
        32))
        fun v212 H213 =>
        ∃ a214 k215 k216,
        v212 = Value.slice a214 k215 k216 ∧
        Ob (at0 k10 ≠ none) ∧
        ∃ a217 k218 k219,
        Reads H213 (fldA (at0 k10) 7)
        [Value.slice a217 k218 k219] ∧
        EvV Proofs.Try.prog
        (Builtin.append_ #[29, 29] 29
        #[Value.slice a217 k218 k219, Value.slice a214 k215 k216])
        H213 fun v220 H221 =>
        ∃ a222 k223 k224,
        v220 = Value.slice a222 k223 k224 ∧
        Ob (at0 k10 ≠ none) ∧
        ∃ H225,
        Writes H221 H225 (fldA (at0 k10) 7)
        [Value.slice a222 k223 k224] ∧
        R184 [Value.int IntKind.i64 (IntKind.i64.wrap (n186 + 1))]
        H225 ∧
        Less
        (M185
        [Value.int IntKind.i64 (IntKind.i64.wrap (n186 + 1))]
        H225)
        (M185 [Value.int IntKind.i64 n186] H187)) ∧
        ((n188 == 14) = false →
        R184 [Value.int IntKind.i64 (IntKind.i64.wrap (n186 + 1))] H187 ∧
        Less (M185 [Value.int IntKind.i64 (IntKind.i64.wrap (n186 + 1))] H187)
        (M185 [Value.int IntKind.i64 n186] H187))) ∧
        (decide (n186 < (↑k8 : Int)) = false →
        ∃ b226 b227 b228 n229 n230 n231 n232 a233 k234 k235,
        Reads H187 (at0 k10)
        [Value.bool b226, Value.bool b227, Value.bool b228, Value.int IntKind.i64 n229,
        Value.int IntKind.i64 n230, Value.int IntKind.i64 n231, Value.int IntKind.i64 n232,
        Value.slice a233 k234 k235] ∧
        Q
        (Value.agg
        #[Value.bool b226, Value.bool b227, Value.bool b228, Value.int IntKind.i64 n229,
        Value.int IntKind.i64 n230, Value.int IntKind.i64 n231, Value.int IntKind.i64 n232,
        Value.slice a233 k234 k235])
        H187))))) :
    Triple Go.Proofs.Try.prog 41 ([Value.agg #[Value.int IntKind.i64 n1, Value.int IntKind.i64 n2, Value.int IntKind.i64 n3, Value.int IntKind.i64 n4, Value.int IntKind.i64 n5, Value.int IntKind.i64 n6], Value.slice a7 k8 k9]).toArray H Q :=
  Triple.of_vc sSettle.cx (by kernel_rfl) h

theorem sSettle1.vc (n1 : Int) (n2 : Int) (n3 : Int) (n4 : Int) (s5 : ByteArray) (n6 : Int) (n7 : Int) (n8 : Int) (n9 : Int) (n10 : Int) (a11 : Option Addr) (k12 : Nat) (k13 : Nat) (a14 : Option Addr) (k15 : Nat) (k16 : Nat) (a17 : Option Addr) (k18 : Nat) (k19 : Nat) (a20 : Option Addr) (H : PHeap) (Q : Value → PHeap → Prop)
    (h : Ob (a20 ≠ none) ∧ ∃ n21, Reads H (fldA a20 6) [Value.int IntKind.i64 n21] ∧ Q (Value.bool (n8 == n21)) H) :
    Triple Go.Proofs.Try.prog 63 ([Value.agg
    #[Value.int IntKind.i64 n1, Value.int IntKind.i64 n2, Value.int IntKind.i64 n3, Value.int IntKind.i64 n4, Value.string s5, Value.int IntKind.i64 n6, Value.int IntKind.i64 n7,
      Value.int IntKind.i64 n8, Value.int IntKind.i64 n9, Value.int IntKind.i64 n10, Value.slice a11 k12 k13, Value.slice a14 k15 k16, Value.slice a17 k18 k19],
  Value.pointer a20]).toArray H Q :=
  Triple.of_vc sSettle1.cx (by kernel_rfl) h

theorem sValue.vc (n1 : Int) (n2 : Int) (n3 : Int) (n4 : Int) (s5 : ByteArray) (n6 : Int) (n7 : Int) (n8 : Int) (n9 : Int) (n10 : Int) (a11 : Option Addr) (k12 : Nat) (k13 : Nat) (a14 : Option Addr) (k15 : Nat) (k16 : Nat) (a17 : Option Addr) (k18 : Nat) (k19 : Nat) (H : PHeap) (Q : Value → PHeap → Prop)
    (h : ((n1 != 14) = true → Q (Value.tuple #[Value.agg #[Value.bool false, Value.int IntKind.i64 0, Value.int IntKind.i64 0, Value.int IntKind.i64 0], Value.bool false]) H) ∧
  ((n1 != 14) = false →
    Triple Proofs.Try.prog 83
      #[Value.agg
        #[Value.int IntKind.i64 n10, Value.string ({ data := #[] } : ByteArray), Value.int IntKind.i64 n6, Value.int IntKind.i64 n7, Value.int IntKind.i64 0, Value.int IntKind.i64 n9, Value.slice none 0 0]]
      H fun v20 H21 =>
      ∃ b22 n23 n24 n25 b26,
        v20 = Value.tuple #[Value.agg #[Value.bool b22, Value.int IntKind.i64 n23, Value.int IntKind.i64 n24, Value.int IntKind.i64 n25], Value.bool b26] ∧
        Q (Value.tuple #[Value.agg #[Value.bool b22, Value.int IntKind.i64 n23, Value.int IntKind.i64 n24, Value.int IntKind.i64 n25], Value.bool b26]) H21)) :
    Triple Go.Proofs.Try.prog 62 ([Value.agg
    #[Value.int IntKind.i64 n1, Value.int IntKind.i64 n2, Value.int IntKind.i64 n3, Value.int IntKind.i64 n4, Value.string s5, Value.int IntKind.i64 n6, Value.int IntKind.i64 n7,
      Value.int IntKind.i64 n8, Value.int IntKind.i64 n9, Value.int IntKind.i64 n10, Value.slice a11 k12 k13, Value.slice a14 k15 k16, Value.slice a17 k18 k19]]).toArray H Q :=
  Triple.of_vc sValue.cx (by kernel_rfl) h

theorem sCount.vc (a1 : Option Addr) (k2 : Nat) (k3 : Nat) (a4 : Option Addr) (k5 : Nat) (k6 : Nat) (H : PHeap) (Q : Value → PHeap → Prop)
    (h : ∃ (R7 : Rl) (M8 : Mu),
  R7 [Value.int IntKind.i64 0, Value.int IntKind.i64 0] H ∧
    ∀ (n9 n10 : Int) (H11 : PHeap),
      R7 [Value.int IntKind.i64 n9, Value.int IntKind.i64 n10] H11 →
        (decide (n10 < (↑k2 : Int)) = true →
        Ob (a1 ≠ none ∧ 0 ≤ n10 ∧ n10 < (↑k2 : Int)) ∧
        ∃ n12 n13 n14 n15 s16 n17 n18 n19 n20 n21 a22 k23 k24 a25 k26 k27 a28 k29 k30,
        Reads H11 (elemA a1 n10 13)
        [Value.int IntKind.i64 n12, Value.int IntKind.i64 n13, Value.int IntKind.i64 n14, Value.int IntKind.i64 n15, Value.string s16, Value.int IntKind.i64 n17, Value.int IntKind.i64 n18,
        Value.int IntKind.i64 n19, Value.int IntKind.i64 n20, Value.int IntKind.i64 n21, Value.slice a22 k23 k24, Value.slice a25 k26 k27, Value.slice a28 k29 k30] ∧
        ∃ (R31 : Rl) (M32 : Mu),
        R31 [Value.int IntKind.i64 0] H11 ∧
        ∀ (n33 : Int) (H34 : PHeap),
        R31 [Value.int IntKind.i64 n33] H34 →
        (decide (n33 < (↑k5 : Int)) = true →
        Ob (a4 ≠ none ∧ 0 ≤ n33 ∧ n33 < (↑k5 : Int)) ∧
        ∃ v35,
        Reads H34 (elemA a4 n33 1) [v35] ∧
        CallY Proofs.Try.prog v35
        #[Value.agg
        #[Value.int IntKind.i64 n12, Value.int IntKind.i64 n13, Value.int IntKind.i64 n14, Value.int IntKind.i64 n15, Value.string s16, Value.int IntKind.i64 n17,
        Value.int IntKind.i64 n18, Value.int IntKind.i64 n19, Value.int IntKind.i64 n20, Value.int IntKind.i64 n21, Value.slice a22 k23 k24,
        Value.slice a25 k26 k27, Value.slice a28 k29 k30]]
        H34 fun v36 H37 =>
        ∃ b38,
        v36 = Value.bool b38 ∧
        ((!b38) = true →
        R7 [Value.int IntKind.i64 n9, Value.int IntKind.i64 (IntKind.i64.wrap (n10 + 1))] H37 ∧
        Less (M8 [Value.int IntKind.i64 n9, Value.int IntKind.i64 (IntKind.i64.wrap (n10 + 1))] H37)
        (M8 [Value.int IntKind.i64 n9, Value.int IntKind.i64 n10] H11)) ∧
        ((!b38) = false →
        R31 [Value.int IntKind.i64 (IntKind.i64.wrap (n33 + 1))] H37 ∧
        Less (M32 [Value.int IntKind.i64 (IntKind.i64.wrap (n33 + 1))] H37) (M32 [Value.int IntKind.i64 n33] H34))) ∧
        (decide (n33 < (↑k5 : Int)) = false →
        R7 [Value.int IntKind.i64 (IntKind.i64.wrap (n9 + 1)), Value.int IntKind.i64 (IntKind.i64.wrap (n10 + 1))] H34 ∧
        Less (M8 [Value.int IntKind.i64 (IntKind.i64.wrap (n9 + 1)), Value.int IntKind.i64 (IntKind.i64.wrap (n10 + 1))] H34)
        (M8 [Value.int IntKind.i64 n9, Value.int IntKind.i64 n10] H11))) ∧
        (decide (n10 < (↑k2 : Int)) = false → Q (Value.int IntKind.i64 n9) H11)) :
    Triple Go.Proofs.Try.prog 64 ([Value.slice a1 k2 k3, Value.slice a4 k5 k6]).toArray H Q :=
  Triple.of_vc sCount.cx (by kernel_rfl) h

theorem sSound.vc (n1 : Int) (n2 : Int) (n3 : Int) (n4 : Int) (s5 : ByteArray) (n6 : Int) (n7 : Int) (n8 : Int) (n9 : Int) (n10 : Int) (a11 : Option Addr) (k12 : Nat) (k13 : Nat) (a14 : Option Addr) (k15 : Nat) (k16 : Nat) (a17 : Option Addr) (k18 : Nat) (k19 : Nat) (H : PHeap) (Q : Value → PHeap → Prop)
    (h : ((n1 == 14) = true →
    Triple Proofs.Try.prog 84
      #[Value.agg
        #[Value.int IntKind.i64 n1, Value.int IntKind.i64 n2, Value.int IntKind.i64 n3, Value.int IntKind.i64 n4, Value.string s5, Value.int IntKind.i64 n6, Value.int IntKind.i64 n7,
        Value.int IntKind.i64 n8, Value.int IntKind.i64 n9, Value.int IntKind.i64 n10, Value.slice a11 k12 k13, Value.slice a14 k15 k16, Value.slice a17 k18 k19],
        Value.int IntKind.i64 2]
      H fun v20 H21 => ∃ n22, v20 = Value.int IntKind.i64 n22 ∧ Q (Value.bool (n22 == 1)) H21) ∧
  ((n1 == 14) = !true → Q (Value.bool false) H)) :
    Triple Go.Proofs.Try.prog 65 ([Value.agg
    #[Value.int IntKind.i64 n1, Value.int IntKind.i64 n2, Value.int IntKind.i64 n3, Value.int IntKind.i64 n4, Value.string s5, Value.int IntKind.i64 n6, Value.int IntKind.i64 n7,
      Value.int IntKind.i64 n8, Value.int IntKind.i64 n9, Value.int IntKind.i64 n10, Value.slice a11 k12 k13, Value.slice a14 k15 k16, Value.slice a17 k18 k19]]).toArray H Q :=
  Triple.of_vc sSound.cx (by kernel_rfl) h

theorem sLeft.vc (n1 : Int) (n2 : Int) (n3 : Int) (n4 : Int) (s5 : ByteArray) (n6 : Int) (n7 : Int) (n8 : Int) (n9 : Int) (n10 : Int) (a11 : Option Addr) (k12 : Nat) (k13 : Nat) (a14 : Option Addr) (k15 : Nat) (k16 : Nat) (a17 : Option Addr) (k18 : Nat) (k19 : Nat) (H : PHeap) (Q : Value → PHeap → Prop)
    (h : ((n1 == 14) = true →
    Triple Proofs.Try.prog 84
      #[Value.agg
        #[Value.int IntKind.i64 n1, Value.int IntKind.i64 n2, Value.int IntKind.i64 n3, Value.int IntKind.i64 n4, Value.string s5, Value.int IntKind.i64 n6, Value.int IntKind.i64 n7,
        Value.int IntKind.i64 n8, Value.int IntKind.i64 n9, Value.int IntKind.i64 n10, Value.slice a11 k12 k13, Value.slice a14 k15 k16, Value.slice a17 k18 k19],
        Value.int IntKind.i64 0]
      H fun v20 H21 =>
      ∃ n22,
        v20 = Value.int IntKind.i64 n22 ∧
        ((n22 != 0) = false →
        Triple Proofs.Try.prog 84
        #[Value.agg
        #[Value.int IntKind.i64 n1, Value.int IntKind.i64 n2, Value.int IntKind.i64 n3, Value.int IntKind.i64 n4, Value.string s5, Value.int IntKind.i64 n6, Value.int IntKind.i64 n7,
        Value.int IntKind.i64 n8, Value.int IntKind.i64 n9, Value.int IntKind.i64 n10, Value.slice a11 k12 k13, Value.slice a14 k15 k16, Value.slice a17 k18 k19],
        Value.int IntKind.i64 1]
        H21 fun v23 H24 => ∃ n25, v23 = Value.int IntKind.i64 n25 ∧ Q (Value.bool (n25 != 0)) H24) ∧
        ((n22 != 0) = !false → Q (Value.bool true) H21)) ∧
  ((n1 == 14) = !true → Q (Value.bool false) H)) :
    Triple Go.Proofs.Try.prog 67 ([Value.agg
    #[Value.int IntKind.i64 n1, Value.int IntKind.i64 n2, Value.int IntKind.i64 n3, Value.int IntKind.i64 n4, Value.string s5, Value.int IntKind.i64 n6, Value.int IntKind.i64 n7,
      Value.int IntKind.i64 n8, Value.int IntKind.i64 n9, Value.int IntKind.i64 n10, Value.slice a11 k12 k13, Value.slice a14 k15 k16, Value.slice a17 k18 k19]]).toArray H Q :=
  Triple.of_vc sLeft.cx (by kernel_rfl) h

theorem sMarked.vc (n1 : Int) (n2 : Int) (n3 : Int) (n4 : Int) (s5 : ByteArray) (n6 : Int) (n7 : Int) (n8 : Int) (n9 : Int) (n10 : Int) (a11 : Option Addr) (k12 : Nat) (k13 : Nat) (a14 : Option Addr) (k15 : Nat) (k16 : Nat) (a17 : Option Addr) (k18 : Nat) (k19 : Nat) (H : PHeap) (Q : Value → PHeap → Prop)
    (h : Triple Proofs.Try.prog 62
  #[Value.agg
      #[Value.int IntKind.i64 n1, Value.int IntKind.i64 n2, Value.int IntKind.i64 n3, Value.int IntKind.i64 n4, Value.string s5, Value.int IntKind.i64 n6, Value.int IntKind.i64 n7,
        Value.int IntKind.i64 n8, Value.int IntKind.i64 n9, Value.int IntKind.i64 n10, Value.slice a11 k12 k13, Value.slice a14 k15 k16, Value.slice a17 k18 k19]]
  H fun v20 H21 =>
  ∃ b22 n23 n24 n25 b26, v20 = Value.tuple #[Value.agg #[Value.bool b22, Value.int IntKind.i64 n23, Value.int IntKind.i64 n24, Value.int IntKind.i64 n25], Value.bool b26] ∧ Q (Value.bool b26) H21) :
    Triple Go.Proofs.Try.prog 68 ([Value.agg
    #[Value.int IntKind.i64 n1, Value.int IntKind.i64 n2, Value.int IntKind.i64 n3, Value.int IntKind.i64 n4, Value.string s5, Value.int IntKind.i64 n6, Value.int IntKind.i64 n7,
      Value.int IntKind.i64 n8, Value.int IntKind.i64 n9, Value.int IntKind.i64 n10, Value.slice a11 k12 k13, Value.slice a14 k15 k16, Value.slice a17 k18 k19]]).toArray H Q :=
  Triple.of_vc sMarked.cx (by kernel_rfl) h

theorem sHold.vc (a1 : Option Addr) (k2 : Nat) (k3 : Nat) (b4 : Bool) (n5 : Int) (n6 : Int) (n7 : Int) (H : PHeap) (Q : Value → PHeap → Prop)
    (h : ∃ (R8 : Rl) (M9 : Mu),
  R8 [Value.slice none 0 0, Value.int IntKind.i64 0] H ∧
    ∀ (a10 : Option Addr) (k11 k12 : Nat) (n13 : Int) (H14 : PHeap),
      R8 [Value.slice a10 k11 k12, Value.int IntKind.i64 n13] H14 →
        (decide (n13 < (↑k2 : Int)) = true →
        Ob (a1 ≠ none ∧ 0 ≤ n13 ∧ n13 < (↑k2 : Int)) ∧
        ∃ n15 n16 n17 n18 s19 n20 n21 n22 n23 n24 a25 k26 k27 a28 k29 k30 a31 k32 k33,
        Reads H14 (elemA a1 n13 13)
        [Value.int IntKind.i64 n15, Value.int IntKind.i64 n16, Value.int IntKind.i64 n17, Value.int IntKind.i64 n18, Value.string s19, Value.int IntKind.i64 n20, Value.int IntKind.i64 n21,
        Value.int IntKind.i64 n22, Value.int IntKind.i64 n23, Value.int IntKind.i64 n24, Value.slice a25 k26 k27, Value.slice a28 k29 k30, Value.slice a31 k32 k33] ∧
        ((bif b4 then bif n24 == 2 then bif n20 == n5 then n21 == n6 else false else false else false) = true →
        ∀ (k34 : Nat),
        H14 k34 = none →
        EvV Proofs.Try.prog (Builtin.append_ #[29, 29] 29 #[Value.slice a10 k11 k12, Value.slice (at0 k34) 1 1])
        (H14.upd k34 (Obj.cells #[Value.int IntKind.i64 n16] 3)) fun v35 H36 =>
        ∃ a37 k38 k39,
        v35 = Value.slice a37 k38 k39 ∧
        R8 [Value.slice a37 k38 k39, Value.int IntKind.i64 (IntKind.i64.wrap (n13 + 1))] H36 ∧
        Less (M9 [Value.slice a37 k38 k39, Value.int IntKind.i64 (IntKind.i64.wrap (n13 + 1))] H36) (M9 [Value.slice a10 k11 k12, Value.int IntKind.i64 n13] H14)) ∧
        ((bif b4 then bif n24 == 2 then bif n20 == n5 then n21 == n6 else false else false else false) = false →
        R8 [Value.slice a10 k11 k12, Value.int IntKind.i64 (IntKind.i64.wrap (n13 + 1))] H14 ∧
        Less (M9 [Value.slice a10 k11 k12, Value.int IntKind.i64 (IntKind.i64.wrap (n13 + 1))] H14) (M9 [Value.slice a10 k11 k12, Value.int IntKind.i64 n13] H14))) ∧
        (decide (n13 < (↑k2 : Int)) = false → Q (Value.slice a10 k11 k12) H14)) :
    Triple Go.Proofs.Try.prog 69 ([Value.slice a1 k2 k3, Value.agg #[Value.bool b4, Value.int IntKind.i64 n5, Value.int IntKind.i64 n6, Value.int IntKind.i64 n7]]).toArray H Q :=
  Triple.of_vc sHold.cx (by kernel_rfl) h

theorem sWho.vc (n1 : Int) (n2 : Int) (n3 : Int) (n4 : Int) (s5 : ByteArray) (n6 : Int) (n7 : Int) (n8 : Int) (n9 : Int) (n10 : Int) (a11 : Option Addr) (k12 : Nat) (k13 : Nat) (a14 : Option Addr) (k15 : Nat) (k16 : Nat) (a17 : Option Addr) (k18 : Nat) (k19 : Nat) (n20 : Int) (H : PHeap) (Q : Value → PHeap → Prop)
    (h : (decide (n20 < (↑k12 : Int)) = true → Ob (a11 ≠ none ∧ 0 ≤ n20 ∧ n20 < (↑k12 : Int)) ∧ ∃ n21, Reads H (elemA a11 n20 1) [Value.int IntKind.i64 n21] ∧ Q (Value.int IntKind.i64 n21) H) ∧
  (decide (n20 < (↑k12 : Int)) = false → Q (Value.int IntKind.i64 0) H)) :
    Triple Go.Proofs.Try.prog 84 ([Value.agg
    #[Value.int IntKind.i64 n1, Value.int IntKind.i64 n2, Value.int IntKind.i64 n3, Value.int IntKind.i64 n4, Value.string s5, Value.int IntKind.i64 n6, Value.int IntKind.i64 n7,
      Value.int IntKind.i64 n8, Value.int IntKind.i64 n9, Value.int IntKind.i64 n10, Value.slice a11 k12 k13, Value.slice a14 k15 k16, Value.slice a17 k18 k19],
  Value.int IntKind.i64 n20]).toArray H Q :=
  Triple.of_vc sWho.cx (by kernel_rfl) h

theorem fixOf.vc (n1 : Int) (s2 : ByteArray) (n3 : Int) (n4 : Int) (n5 : Int) (n6 : Int) (a7 : Option Addr) (k8 : Nat) (k9 : Nat) (H : PHeap) (Q : Value → PHeap → Prop)
    (h : ((bif n1 == 2 then true else n1 == 3) = true → Q (Value.tuple #[Value.agg #[Value.bool true, Value.int IntKind.i64 n3, Value.int IntKind.i64 n4, Value.int IntKind.i64 n6], Value.bool true]) H) ∧
  ((bif n1 == 2 then true else n1 == 3) = false →
    ((n1 == 4) = true → Q (Value.tuple #[Value.agg #[Value.bool false, Value.int IntKind.i64 0, Value.int IntKind.i64 0, Value.int IntKind.i64 0], Value.bool true]) H) ∧
      ((n1 == 4) = false → Q (Value.tuple #[Value.agg #[Value.bool false, Value.int IntKind.i64 0, Value.int IntKind.i64 0, Value.int IntKind.i64 0], Value.bool false]) H))) :
    Triple Go.Proofs.Try.prog 83 ([Value.agg #[Value.int IntKind.i64 n1, Value.string s2, Value.int IntKind.i64 n3, Value.int IntKind.i64 n4, Value.int IntKind.i64 n5, Value.int IntKind.i64 n6, Value.slice a7 k8 k9]]).toArray H Q :=
  Triple.of_vc fixOf.cx (by kernel_rfl) h

theorem rSettle.vc (n1 : Int) (n2 : Int) (n3 : Int) (n4 : Int) (n5 : Int) (n6 : Int) (a7 : Option Addr) (k8 : Nat) (k9 : Nat) (H : PHeap) (Q : Value → PHeap → Prop)
    (h : ∀ (k10 : Nat),
  H k10 = none →
    ∃ H11,
      Writes
        (H.upd k10
        (Obj.cells #[Value.bool false, Value.bool false, Value.bool false, Value.int IntKind.i64 0, Value.int IntKind.i64 0, Value.int IntKind.i64 0, Value.int IntKind.i64 0, Value.slice none 0 0]
        100))
        H11 (at0 k10)
        [Value.bool false, Value.bool false, Value.bool false, Value.int IntKind.i64 0, Value.int IntKind.i64 0, Value.int IntKind.i64 0, Value.int IntKind.i64 0, Value.slice none 0 0] ∧
        Triple Proofs.Try.prog 6
        #[Value.agg #[Value.int IntKind.i64 n1, Value.int IntKind.i64 n2, Value.int IntKind.i64 n3, Value.int IntKind.i64 n4, Value.int IntKind.i64 n5, Value.int IntKind.i64 n6]] H11 fun v12 H13 =>
        ∃ b14,
        v12 = Value.bool b14 ∧
        ((!b14) = true →
        ∃ b15 b16 b17 n18 n19 n20 n21 a22 k23 k24,
        Reads H13 (at0 k10)
        [Value.bool b15, Value.bool b16, Value.bool b17, Value.int IntKind.i64 n18, Value.int IntKind.i64 n19, Value.int IntKind.i64 n20, Value.int IntKind.i64 n21,
        Value.slice a22 k23 k24] ∧
        Q
        (Value.agg
        #[Value.bool b15, Value.bool b16, Value.bool b17, Value.int IntKind.i64 n18, Value.int IntKind.i64 n19, Value.int IntKind.i64 n20, Value.int IntKind.i64 n21,
        Value.slice a22 k23 k24])
        H13) ∧
        ((!b14) = false →
        ∃ (R25 : Rl) (M26 : Mu),
        R25 [Value.int IntKind.i64 0] H13 ∧
        ∀ (n27 : Int) (H28 : PHeap),
        R25 [Value.int IntKind.i64 n27] H28 →
        (decide (n27 < (↑k8 : Int)) = true →
        ∃ H29,
        Vx.Sub H29 H28 ∧
        Ob (a7 ≠ none ∧ 0 ≤ n27 ∧ n27 < (↑k8 : Int)) ∧
        ∃ n30 n31 n32 n33 s34 n35 n36 n37 n38 n39 a40 k41 k42 a43 k44 k45 a46 k47 k48,
        Reads H29 (elemA a7 n27 13)
        [Value.int IntKind.i64 n30, Value.int IntKind.i64 n31, Value.int IntKind.i64 n32, Value.int IntKind.i64 n33, Value.string s34, Value.int IntKind.i64 n35,
        Value.int IntKind.i64 n36, Value.int IntKind.i64 n37, Value.int IntKind.i64 n38, Value.int IntKind.i64 n39, Value.slice a40 k41 k42,
        Value.slice a43 k44 k45, Value.slice a46 k47 k48] ∧
        Triple Proofs.Try.prog 78
        #[Value.agg
        #[Value.int IntKind.i64 n30, Value.int IntKind.i64 n31, Value.int IntKind.i64 n32, Value.int IntKind.i64 n33, Value.string s34, Value.int IntKind.i64 n35,
        Value.int IntKind.i64 n36, Value.int IntKind.i64 n37, Value.int IntKind.i64 n38, Value.int IntKind.i64 n39, Value.slice a40 k41 k42,
        Value.slice a43 k44 k45, Value.slice a46 k47 k48]]
        H28 fun v49 H50 =>
        ∃ b51,
        v49 = Value.bool b51 ∧
        Vx.Sub H29 H50 ∧
        ((!b51) = false →
        Ob (a7 ≠ none ∧ 0 ≤ n27 ∧ n27 < (↑k8 : Int)) ∧
        Ob (elemA a7 n27 13 ≠ none) ∧
        ∃ n52,
        Reads H29 (fldA (elemA a7 n27 13) 7) [Value.int IntKind.i64 n52] ∧
        Ob (at0 k10 ≠ none) ∧
        ∃ n53,
        Reads H29 (fldA (at0 k10) 6) [Value.int IntKind.i64 n53] ∧
        (decide (n52 ≤ n53) = true →
        R25 [Value.int IntKind.i64 (IntKind.i64.wrap (n27 + 1))] H50 ∧
        Less (M26 [Value.int IntKind.i64 (IntKind.i64.wrap (n27 + 1))] H50) (M26 [Value.int IntKind.i64 n27] H28)) ∧
        (decide (n52 ≤ n53) = false →
        Ob (a7 ≠ none ∧ 0 ≤ n27 ∧ n27 < (↑k8 : Int)) ∧
        Ob (elemA a7 n27 13 ≠ none) ∧
        ∃ n54,
        Reads H50 (fldA (elemA a7 n27 13) 7) [Value.int IntKind.i64 n54] ∧
        Ob (at0 k10 ≠ none) ∧
        ∃ H55,
        Writes H50 H55 (fldA (at0 k10) 6) [Value.int IntKind.i64 n54] ∧
        Ob (at0 k10 ≠ none) ∧
        ∃ H56,
        Writes H55 H56 (fldA (at0 k10) 2)
        [Value.bool false, Value.int IntKind.i64 0, Value.int IntKind.i64 0, Value.int IntKind.i64 0] ∧
        Ob (a7 ≠ none ∧ 0 ≤ n27 ∧ n27 < (↑k8 : Int)) ∧
        Ob (elemA a7 n27 13 ≠ none) ∧
        ∃ n57,
        Reads H56 (fldA (elemA a7 n27 13) 9) [Value.int IntKind.i64 n57] ∧
        ((n57 != 4) = true →
        ∃ H58,
        Vx.Sub H58 H56 ∧
        Ob (a7 ≠ none ∧ 0 ≤ n27 ∧ n27 < (↑k8 : Int)) ∧
        Ob (elemA a7 n27 13 ≠ none) ∧
        ∃ n59,
        Reads H58 (fldA (elemA a7 n27 13) 5) [Value.int IntKind.i64 n59] ∧
        Ob (a7 ≠ none ∧ 0 ≤ n27 ∧ n27 < (↑k8 : Int)) ∧
        Ob (elemA a7 n27 13 ≠ none) ∧
        ∃ n60,
        Reads H58 (fldA (elemA a7 n27 13) 6) [Value.int IntKind.i64 n60] ∧
        Ob (a7 ≠ none ∧ 0 ≤ n27 ∧ n27 < (↑k8 : Int)) ∧
        Ob (elemA a7 n27 13 ≠ none) ∧
        ∃ n61,
        Reads H58 (fldA (elemA a7 n27 13) 8) [Value.int IntKind.i64 n61] ∧
        Ob (at0 k10 ≠ none) ∧
        ∃ H62,
        Writes H56 H62 (fldA (at0 k10) 2)
        [Value.bool true, Value.int IntKind.i64 n59,
        Value.int IntKind.i64 n60, Value.int IntKind.i64 n61] ∧
        R25 [Value.int IntKind.i64 (IntKind.i64.wrap (n27 + 1))] H62 ∧
        Less
        (M26 [Value.int IntKind.i64 (IntKind.i64.wrap (n27 + 1))]
        H62)
        (M26 [Value.int IntKind.i64 n27] H28)) ∧
        ((n57 != 4) = false →
        R25 [Value.int IntKind.i64 (IntKind.i64.wrap (n27 + 1))] H56 ∧
        Less (M26 [Value.int IntKind.i64 (IntKind.i64.wrap (n27 + 1))] H56)
        (M26 [Value.int IntKind.i64 n27] H28)))) ∧
        ((!b51) = !false →
        R25 [Value.int IntKind.i64 (IntKind.i64.wrap (n27 + 1))] H50 ∧
        Less (M26 [Value.int IntKind.i64 (IntKind.i64.wrap (n27 + 1))] H50) (M26 [Value.int IntKind.i64 n27] H28))) ∧
        (decide (n27 < (↑k8 : Int)) = false →
        ∃ (R63 : Rl) (M64 : Mu),
        R63 [Value.int IntKind.i64 0, Value.int IntKind.i64 0, Value.int IntKind.i64 0, Value.int IntKind.i64 0] H28 ∧
        ∀ (n65 n66 n67 n68 : Int) (H69 : PHeap),
        R63 [Value.int IntKind.i64 n65, Value.int IntKind.i64 n66, Value.int IntKind.i64 n67, Value.int IntKind.i64 n68] H69 →
        (decide (n68 < (↑k8 : Int)) = true →
        Ob (a7 ≠ none ∧ 0 ≤ n68 ∧ n68 < (↑k8 : Int)) ∧
        Ob (elemA a7 n68 13 ≠ none) ∧
        ∃ n70,
        Reads H69 (fldA (elemA a7 n68 13) 0) [Value.int IntKind.i64 n70] ∧
        ((n70 != 14) = true →
        R63 [Value.int IntKind.i64 n65, Value.int IntKind.i64 n66, Value.int IntKind.i64 n67, Value.int IntKind.i64 (IntKind.i64.wrap (n68 + 1))] H69 ∧
        Less
        (M64 [Value.int IntKind.i64 n65, Value.int IntKind.i64 n66, Value.int IntKind.i64 n67, Value.int IntKind.i64 (IntKind.i64.wrap (n68 + 1))]
        H69)
        (M64 [Value.int IntKind.i64 n65, Value.int IntKind.i64 n66, Value.int IntKind.i64 n67, Value.int IntKind.i64 n68] H69)) ∧
        ((n70 != 14) = false →
        Ob (a7 ≠ none ∧ 0 ≤ n68 ∧ n68 < (↑k8 : Int)) ∧
        ∃ n71 n72 n73 n74 s75 n76 n77 n78 n79 n80 a81 k82 k83 a84 k85 k86 a87 k88 k89,
        Reads H69 (elemA a7 n68 13)
        [Value.int IntKind.i64 n71, Value.int IntKind.i64 n72, Value.int IntKind.i64 n73, Value.int IntKind.i64 n74, Value.string s75,
        Value.int IntKind.i64 n76, Value.int IntKind.i64 n77, Value.int IntKind.i64 n78, Value.int IntKind.i64 n79, Value.int IntKind.i64 n80,
        Value.slice a81 k82 k83, Value.slice a84 k85 k86, Value.slice a87 k88 k89] ∧
        Triple Proofs.Try.prog 79
        #[Value.agg
        #[Value.int IntKind.i64 n71, Value.int IntKind.i64 n72, Value.int IntKind.i64 n73, Value.int IntKind.i64 n74, Value.string s75,
        Value.int IntKind.i64 n76, Value.int IntKind.i64 n77, Value.int IntKind.i64 n78, Value.int IntKind.i64 n79,
        Value.int IntKind.i64 n80, Value.slice a81 k82 k83, Value.slice a84 k85 k86, Value.slice a87 k88 k89],
        Value.int IntKind.i64 2]
        H69 fun v90 H91 =>
        ∃ n92,
        v90 = Value.int IntKind.i64 n92 ∧
        Ob (a7 ≠ none ∧ 0 ≤ n68 ∧ n68 < (↑k8 : Int)) ∧
        ∃ n93 n94 n95 n96 s97 n98 n99 n100 n101 n102 a103 k104 k105 a106 k107 k108 a109 k110 k111,
        Reads H91 (elemA a7 n68 13)
        [Value.int IntKind.i64 n93, Value.int IntKind.i64 n94, Value.int IntKind.i64 n95, Value.int IntKind.i64 n96, Value.string s97,
        Value.int IntKind.i64 n98, Value.int IntKind.i64 n99, Value.int IntKind.i64 n100, Value.int IntKind.i64 n101,
        Value.int IntKind.i64 n102, Value.slice a103 k104 k105, Value.slice a106 k107 k108, Value.slice a109 k110 k111] ∧
        Triple Proofs.Try.prog 79
        #[Value.agg
        #[Value.int IntKind.i64 n93, Value.int IntKind.i64 n94, Value.int IntKind.i64 n95, Value.int IntKind.i64 n96,
        Value.string s97, Value.int IntKind.i64 n98, Value.int IntKind.i64 n99, Value.int IntKind.i64 n100,
        Value.int IntKind.i64 n101, Value.int IntKind.i64 n102, Value.slice a103 k104 k105, Value.slice a106 k107 k108,
        Value.slice a109 k110 k111],
        Value.int IntKind.i64 0]
        H91 fun v112 H113 =>
        ∃ n114,
        v112 = Value.int IntKind.i64 n114 ∧
        ((n114 != 0) = false →
        Ob (a7 ≠ none ∧ 0 ≤ n68 ∧ n68 < (↑k8 : Int)) ∧
        ∃ n115 n116 n117 n118 s119 n120 n121 n122 n123 n124 a125 k126 k127 a128 k129 k130 a131 k132 k133,
        Reads H113 (elemA a7 n68 13)
        [Value.int IntKind.i64 n115, Value.int IntKind.i64 n116, Value.int IntKind.i64 n117,
        Value.int IntKind.i64 n118, Value.string s119, Value.int IntKind.i64 n120, Value.int IntKind.i64 n121,
        Value.int IntKind.i64 n122, Value.int IntKind.i64 n123, Value.int IntKind.i64 n124,
        Value.slice a125 k126 k127, Value.slice a128 k129 k130, Value.slice a131 k132 k133] ∧
        Triple Proofs.Try.prog 79
        #[Value.agg
        #[Value.int IntKind.i64 n115, Value.int IntKind.i64 n116, Value.int IntKind.i64 n117,
        Value.int IntKind.i64 n118, Value.string s119, Value.int IntKind.i64 n120, Value.int IntKind.i64 n121,
        Value.int IntKind.i64 n122, Value.int IntKind.i64 n123, Value.int IntKind.i64 n124,
        Value.slice a125 k126 k127, Value.slice a128 k129 k130, Value.slice a131 k132 k133],
        Value.int IntKind.i64 1]
        H113 fun v134 H135 =>
        ∃ n136,
        v134 = Value.int IntKind.i64 n136 ∧
        ∃ H137,
        Vx.Sub H137 H135 ∧
        Ob (a7 ≠ none ∧ 0 ≤ n68 ∧ n68 < (↑k8 : Int)) ∧
        ∃ n138 n139 n140 n141 s142 n143 n144 n145 n146 n147 a148 k149 k150 a151 k152 k153 a154 k155 k156,
        Reads H137 (elemA a7 n68 13)
        [Value.int IntKind.i64 n138, Value.int IntKind.i64 n139, Value.int IntKind.i64 n140,
        Value.int IntKind.i64 n141, Value.string s142, Value.int IntKind.i64 n143,
        Value.int IntKind.i64 n144, Value.int IntKind.i64 n145, Value.int IntKind.i64 n146,
        Value.int IntKind.i64 n147, Value.slice a148 k149 k150, Value.slice a151 k152 k153,
        Value.slice a154 k155 k156] ∧
        Triple Proofs.Try.prog 78
        #[Value.agg
        #[Value.int IntKind.i64 n138, Value.int IntKind.i64 n139, Value.int IntKind.i64 n140,
        Value.int IntKind.i64 n141, Value.string s142, Value.int IntKind.i64 n143,
        Value.int IntKind.i64 n144, Value.int IntKind.i64 n145, Value.int IntKind.i64 n146,
        Value.int IntKind.i64 n147, Value.slice a148 k149 k150, Value.slice a151 k152 k153,
        Value.slice a154 k155 k156]]
        H135 fun v157 H158 =>
        ∃ b159,
        v157 = Value.bool b159 ∧
        Vx.Sub H137 H158 ∧
        (b159 = true →
        Ob (a7 ≠ none ∧ 0 ≤ n68 ∧ n68 < (↑k8 : Int)) ∧
        Ob (elemA a7 n68 13 ≠ none) ∧
        ∃ n160,
        Reads H137 (fldA (elemA a7 n68 13) 7) [Value.int IntKind.i64 n160] ∧
        Ob (at0 k10 ≠ none) ∧
        ∃ n161,
        Reads H137 (fldA (at0 k10) 6)
        [Value.int IntKind.i64 n161] ∧
        ∃ H162,
        Vx.Sub H162 H158 ∧
        Ob (a7 ≠ none ∧ 0 ≤ n68 ∧ n68 < (↑k8 : Int)) ∧
        ∃ n163 n164 n165 n166 s167 n168 n169 n170 n171 n172 a173 k174
        k175 a176 k177 k178 a179 k180 k181,
        Reads H162 (elemA a7 n68 13)
        [Value.int IntKind.i64 n163, Value.int IntKind.i64 n164,
        Value.int IntKind.i64 n165, Value.int IntKind.i64 n166,
        Value.string s167, Value.int IntKind.i64 n168,
        Value.int IntKind.i64 n169, Value.int IntKind.i64 n170,
        Value.int IntKind.i64 n171, Value.int IntKind.i64 n172,
        Value.slice a173 k174 k175, Value.slice a176 k177 k178,
        Value.slice a179 k180 k181] ∧
        Ob (at0 k10 ≠ none) ∧
        ∃ b182 n183 n184 n185,
        Reads H162 (fldA (at0 k10) 2)
        [Value.bool b182, Value.int IntKind.i64 n183,
        Value.int IntKind.i64 n184,
        Value.int IntKind.i64 n185] ∧
        Triple Proofs.Try.prog 80
        #[Value.agg
        #[Value.int IntKind.i64 n163,
        Value.int IntKind.i64 n164,
        Value.int IntKind.i64 n165,
        Value.int IntKind.i64 n166, Value.string s167,
        Value.int IntKind.i64 n168,
        Value.int IntKind.i64 n169,
        Value.int IntKind.i64 n170,
        Value.int IntKind.i64 n171,
        Value.int IntKind.i64 n172,
        Value.slice a173 k174 k175,
        Value.slice a176 k177 k178,
        Value.slice a179 k180 k181],
        Value.agg
        #[Value.bool b182, Value.int IntKind.i64 n183,
        Value.int IntKind.i64 n184,
        Value.int IntKind.i64 n185]]
        H158 fun v186 H187 =>
        ∃ b188,
        v186 = Value.bool b188 ∧
        (b188 = true →
        ∃ H189,
        Vx.Sub H189 H187 ∧
        Ob
        (at0 k10 ≠
        none) ∧
        ∃ a190 k191 k192,
        Reads H189
        (fldA
        (at0 k10)
        7)
        [Value.slice a190 k191 k192] ∧
        Ob
        (a7 ≠ none ∧
        0 ≤ n68 ∧
        n68 < (↑k8 : Int)) ∧
        Ob (elemA a7 n68 13 ≠ none) ∧
        ∃ n193,
        Reads H189
        (fldA (elemA a7 n68 13)
        1)
        [Value.int IntKind.i64
        n193] ∧
        ∀ (k194 : Nat),
        H187 k194 = none →
        Vx.Sub H189
        (H187.upd k194
        (Obj.cells
        #[Value.int
        IntKind.i64
        n193]
        3)) ∧
        EvV Proofs.Try.prog
        (Builtin.append_
        #[29, 29] 29
        #[Value.slice
        a190 k191
        k192,
        Value.slice
        (at0 k194)
        1 1])
        (H187.upd k194
        (Obj.cells
        #[Value.int
        IntKind.i64
        n193]
        3))
        fun v195 H196 =>
        ∃ a197 k198 k199,
        v195 =
        Value.slice
        a197 k198
        k199 ∧
        Ob
        (at0 k10 ≠
        none) ∧
        ∃ H200,
        Writes
        H196
        H200
        (fldA
        (at0 k10)
        7)
        [Value.slice
        a197
        k198
        k199] ∧
        R63
        [Value.int
        IntKind.i64
        (bif
        n92 ==
        1 then
        IntKind.i64.wrap
        (n65 +
        1)
        else
        n65),
        Value.int
        IntKind.i64
        (bif
        n160 ==
        n161 then
        IntKind.i64.wrap
        (n66 +
        1)
        else
        n66),
        Value.int
        IntKind.i64
        (bif
        n136 !=
        0 then
        IntKind.i64.wrap
        (n67 +
        1)
        else
        n67),
        Value.int
        IntKind.i64
        (IntKind.i64.wrap
        (n68 +
        1))]
        H200 ∧
        Less
        (M64
        [Value.int
        IntKind.i64
        (bif
        n92 ==
        1 then
        IntKind.i64.wrap
        (n65 +
        1)
        else
        n65),
        Value.int
        IntKind.i64
        (bif
        n160 ==
        n161 then
        IntKind.i64.wrap
        (n66 +
        1)
        else
        n66),
        Value.int
        IntKind.i64
        (bif
        n136 !=
        0 then
        IntKind.i64.wrap
        (n67 +
        1)
        else
        n67),
        Value.int
        IntKind.i64
        (IntKind.i64.wrap
        (n68 +
        1))]
        H200)
        (M64
        [Value.int
        IntKind.i64
        n65,
        Value.int
        IntKind.i64
        n66,
        Value.int
        IntKind.i64
        n67,
        Value.int
        IntKind.i64
        n68]
        H69)) ∧
        (b188 = false →
        R63
        [Value.int IntKind.i64
        (bif n92 == 1 then
        IntKind.i64.wrap (n65 + 1)
        else n65),
        Value.int IntKind.i64
        (bif n160 == n161 then
        IntKind.i64.wrap (n66 + 1)
        else n66),
        Value.int IntKind.i64
        (bif n136 != 0 then
        IntKind.i64.wrap (n67 + 1)
        else n67),
        Value.int IntKind.i64
        (IntKind.i64.wrap (n68 + 1))]
        H187 ∧
        Less
        (M64
        [Value.int IntKind.i64
        (bif n92 == 1 then
        IntKind.i64.wrap (n65 + 1)
        else n65),
        Value.int IntKind.i64
        (bif n160 == n161 then
        IntKind.i64.wrap (n66 + 1)
        else n66),
        Value.int IntKind.i64
        (bif n136 != 0 then
        IntKind.i64.wrap (n67 + 1)
        else n67),
        Value.int IntKind.i64
        (IntKind.i64.wrap (n68 + 1))]
        H187)
        (M64
        [Value.int IntKind.i64 n65,
        Value.int IntKind.i64 n66,
        Value.int IntKind.i64 n67,
        Value.int IntKind.i64 n68]
        H69))) ∧
        (b159 = !true →
        ∃ H201,
        Vx.Sub H201 H158 ∧
        Ob (a7 ≠ none ∧ 0 ≤ n68 ∧ n68 < (↑k8 : Int)) ∧
        ∃ n202 n203 n204 n205 s206 n207 n208 n209 n210 n211 a212 k213 k214 a215 k216
        k217 a218 k219 k220,
        Reads H201 (elemA a7 n68 13)
        [Value.int IntKind.i64 n202, Value.int IntKind.i64 n203,
        Value.int IntKind.i64 n204, Value.int IntKind.i64 n205,
        Value.string s206, Value.int IntKind.i64 n207,
        Value.int IntKind.i64 n208, Value.int IntKind.i64 n209,
        Value.int IntKind.i64 n210, Value.int IntKind.i64 n211,
        Value.slice a212 k213 k214, Value.slice a215 k216 k217,
        Value.slice a218 k219 k220] ∧
        Ob (at0 k10 ≠ none) ∧
        ∃ b221 n222 n223 n224,
        Reads H201 (fldA (at0 k10) 2)
        [Value.bool b221, Value.int IntKind.i64 n222,
        Value.int IntKind.i64 n223, Value.int IntKind.i64 n224] ∧
        Triple Proofs.Try.prog 80
        #[Value.agg
        #[Value.int IntKind.i64 n202, Value.int IntKind.i64 n203,
        Value.int IntKind.i64 n204, Value.int IntKind.i64 n205,
        Value.string s206, Value.int IntKind.i64 n207,
        Value.int IntKind.i64 n208, Value.int IntKind.i64 n209,
        Value.int IntKind.i64 n210, Value.int IntKind.i64 n211,
        Value.slice a212 k213 k214, Value.slice a215 k216 k217,
        Value.slice a218 k219 k220],
        Value.agg
        #[Value.bool b221, Value.int IntKind.i64 n222,
        Value.int IntKind.i64 n223, Value.int IntKind.i64 n224]]
        H158 fun v225 H226 =>
        ∃ b227,
        v225 = Value.bool b227 ∧
        (b227 = true →
        ∃ H228,
        Vx.Sub H228 H226 ∧
        Ob (at0 k10 ≠ none) ∧
        ∃ a229 k230 k231,
        Reads H228
        (fldA (at0 k10) 7)
        [Value.slice a229 k230 k231] ∧
        Ob (a7 ≠ none ∧ 0 ≤ n68 ∧ n68 < (↑k8 : Int)) ∧
        Ob (elemA a7 n68 13 ≠ none) ∧
        ∃ n232,
        Reads H228 (fldA (elemA a7 n68 13) 1)
        [Value.int IntKind.i64 n232] ∧
        ∀ (k233 : Nat),
        H226 k233 = none →
        Vx.Sub H228
        (H226.upd k233
        (Obj.cells
        #[Value.int IntKind.i64
        n232]
        3)) ∧
        EvV Proofs.Try.prog
        (Builtin.append_ #[29, 29] 29
        #[Value.slice a229 k230 k231,
        Value.slice
        (at0 k233)
        1 1])
        (H226.upd k233
        (Obj.cells
        #[Value.int IntKind.i64
        n232]
        3))
        fun v234 H235 =>
        ∃ a236 k237 k238,
        v234 =
        Value.slice a236 k237
        k238 ∧
        Ob
        (at0 k10 ≠
        none) ∧
        ∃ H239,
        Writes H235 H239
        (fldA
        (at0 k10)
        7)
        [Value.slice a236
        k237 k238] ∧
        R63
        [Value.int
        IntKind.i64
        (bif
        n92 ==
        1 then
        IntKind.i64.wrap
        (n65 + 1)
        else n65),
        Value.int
        IntKind.i64
        n66,
        Value.int
        IntKind.i64
        (bif
        n136 !=
        0 then
        IntKind.i64.wrap
        (n67 + 1)
        else n67),
        Value.int
        IntKind.i64
        (IntKind.i64.wrap
        (n68 + 1))]
        H239 ∧
        Less
        (M64
        [Value.int
        IntKind.i64
        (bif
        n92 ==
        1 then
        IntKind.i64.wrap
        (n65 +
        1)
        else n65),
        Value.int
        IntKind.i64
        n66,
        Value.int
        IntKind.i64
        (bif
        n136 !=
        0 then
        IntKind.i64.wrap
        (n67 +
        1)
        else n67),
        Value.int
        IntKind.i64
        (IntKind.i64.wrap
        (n68 +
        1))]
        H239)
        (M64
        [Value.int
        IntKind.i64
        n65,
        Value.int
        IntKind.i64
        n66,
        Value.int
        IntKind.i64
        n67,
        Value.int
        IntKind.i64
        n68]
        H69)) ∧
        (b227 = false →
        R63
        [Value.int IntKind.i64
        (bif n92 == 1 then IntKind.i64.wrap (n65 + 1)
        else n65),
        Value.int IntKind.i64 n66,
        Value.int IntKind.i64
        (bif n136 != 0 then IntKind.i64.wrap (n67 + 1)
        else n67),
        Value.int IntKind.i64 (IntKind.i64.wrap (n68 + 1))]
        H226 ∧
        Less
        (M64
        [Value.int IntKind.i64
        (bif n92 == 1 then IntKind.i64.wrap (n65 + 1)
        else n65),
        Value.int IntKind.i64 n66,
        Value.int IntKind.i64
        (bif n136 != 0 then IntKind.i64.wrap (n67 + 1)
        else n67),
        Value.int IntKind.i64
        (IntKind.i64.wrap (n68 + 1))]
        H226)
        (M64
        [Value.int IntKind.i64 n65,
        Value.int IntKind.i64 n66,
        Value.int IntKind.i64 n67,
        Value.int IntKind.i64 n68]
        H69)))) ∧
        ((n114 != 0) = !false →
        ∃ H240,
        Vx.Sub H240 H113 ∧
        Ob (a7 ≠ none ∧ 0 ≤ n68 ∧ n68 < (↑k8 : Int)) ∧
        ∃ n241 n242 n243 n244 s245 n246 n247 n248 n249 n250 a251 k252 k253 a254 k255 k256 a257 k258 k259,
        Reads H240 (elemA a7 n68 13)
        [Value.int IntKind.i64 n241, Value.int IntKind.i64 n242, Value.int IntKind.i64 n243,
        Value.int IntKind.i64 n244, Value.string s245, Value.int IntKind.i64 n246, Value.int IntKind.i64 n247,
        Value.int IntKind.i64 n248, Value.int IntKind.i64 n249, Value.int IntKind.i64 n250,
        Value.slice a251 k252 k253, Value.slice a254 k255 k256, Value.slice a257 k258 k259] ∧
        Triple Proofs.Try.prog 78
        #[Value.agg
        #[Value.int IntKind.i64 n241, Value.int IntKind.i64 n242, Value.int IntKind.i64 n243,
        Value.int IntKind.i64 n244, Value.string s245, Value.int IntKind.i64 n246,
        Value.int IntKind.i64 n247, Value.int IntKind.i64 n248, Value.int IntKind.i64 n249,
        Value.int IntKind.i64 n250, Value.slice a251 k252 k253, Value.slice a254 k255 k256,
        Value.slice a257 k258 k259]]
        H113 fun v260 H261 =>
        ∃ b262,
        v260 = Value.bool b262 ∧
        Vx.Sub H240 H261 ∧
        (b262 = true →
        Ob (a7 ≠ none ∧ 0 ≤ n68 ∧ n68 < (↑k8 : Int)) ∧
        Ob (elemA a7 n68 13 ≠ none) ∧
        ∃ n263,
        Reads H240 (fldA (elemA a7 n68 13) 7) [Value.int IntKind.i64 n263] ∧
        Ob (at0 k10 ≠ none) ∧
        ∃ n264,
        Reads H240 (fldA (at0 k10) 6) [Value.int IntKind.i64 n264] ∧
        ∃ H265,
        Vx.Sub H265 H261 ∧
        Ob (a7 ≠ none ∧ 0 ≤ n68 ∧ n68 < (↑k8 : Int)) ∧
        ∃ n266 n267 n268 n269 s270 n271 n272 n273 n274 n275 a276 k277 k278 a279 k280
        k281 a282 k283 k284,
        Reads H265 (elemA a7 n68 13)
        [Value.int IntKind.i64 n266, Value.int IntKind.i64 n267,
        Value.int IntKind.i64 n268, Value.int IntKind.i64 n269,
        Value.string s270, Value.int IntKind.i64 n271,
        Value.int IntKind.i64 n272, Value.int IntKind.i64 n273,
        Value.int IntKind.i64 n274, Value.int IntKind.i64 n275,
        Value.slice a276 k277 k278, Value.slice a279 k280 k281,
        Value.slice a282 k283 k284] ∧
        Ob (at0 k10 ≠ none) ∧
        ∃ b285 n286 n287 n288,
        Reads H265 (fldA (at0 k10) 2)
        [Value.bool b285, Value.int IntKind.i64 n286,
        Value.int IntKind.i64 n287, Value.int IntKind.i64 n288] ∧
        Triple Proofs.Try.prog 80
        #[Value.agg
        #[Value.int IntKind.i64 n266, Value.int IntKind.i64 n267,
        Value.int IntKind.i64 n268, Value.int IntKind.i64 n269,
        Value.string s270, Value.int IntKind.i64 n271,
        Value.int IntKind.i64 n272, Value.int IntKind.i64 n273,
        Value.int IntKind.i64 n274, Value.int IntKind.i64 n275,
        Value.slice a276 k277 k278, Value.slice a279 k280 k281,
        Value.slice a282 k283 k284],
        Value.agg
        #[Value.bool b285, Value.int IntKind.i64 n286,
        Value.int IntKind.i64 n287, Value.int IntKind.i64 n288]]
        H261 fun v289 H290 =>
        ∃ b291,
        v289 = Value.bool b291 ∧
        (b291 = true →
        ∃ H292,
        Vx.Sub H292 H290 ∧
        Ob (at0 k10 ≠ none) ∧
        ∃ a293 k294 k295,
        Reads H292
        (fldA (at0 k10) 7)
        [Value.slice a293 k294 k295] ∧
        Ob (a7 ≠ none ∧ 0 ≤ n68 ∧ n68 < (↑k8 : Int)) ∧
        Ob (elemA a7 n68 13 ≠ none) ∧
        ∃ n296,
        Reads H292 (fldA (elemA a7 n68 13) 1)
        [Value.int IntKind.i64 n296] ∧
        ∀ (k297 : Nat),
        H290 k297 = none →
        Vx.Sub H292
        (H290.upd k297
        (Obj.cells
        #[Value.int IntKind.i64
        n296]
        3)) ∧
        EvV Proofs.Try.prog
        (Builtin.append_ #[29, 29] 29
        #[Value.slice a293 k294
        k295,
        Value.slice
        (at0 k297)
        1 1])
        (H290.upd k297
        (Obj.cells
        #[Value.int IntKind.i64
        n296]
        3))
        fun v298 H299 =>
        ∃ a300 k301 k302,
        v298 =
        Value.slice a300 k301
        k302 ∧
        Ob
        (at0 k10 ≠
        none) ∧
        ∃ H303,
        Writes H299 H303
        (fldA
        (at0 k10)
        7)
        [Value.slice a300
        k301 k302] ∧
        R63
        [Value.int
        IntKind.i64
        (bif
        n92 ==
        1 then
        IntKind.i64.wrap
        (n65 +
        1)
        else n65),
        Value.int
        IntKind.i64
        (bif
        n263 ==
        n264 then
        IntKind.i64.wrap
        (n66 +
        1)
        else n66),
        Value.int
        IntKind.i64
        (IntKind.i64.wrap
        (n67 +
        1)),
        Value.int
        IntKind.i64
        (IntKind.i64.wrap
        (n68 +
        1))]
        H303 ∧
        Less
        (M64
        [Value.int
        IntKind.i64
        (bif
        n92 ==
        1 then
        IntKind.i64.wrap
        (n65 +
        1)
        else n65),
        Value.int
        IntKind.i64
        (bif
        n263 ==
        n264 then
        IntKind.i64.wrap
        (n66 +
        1)
        else n66),
        Value.int
        IntKind.i64
        (IntKind.i64.wrap
        (n67 +
        1)),
        Value.int
        IntKind.i64
        (IntKind.i64.wrap
        (n68 +
        1))]
        H303)
        (M64
        [Value.int
        IntKind.i64
        n65,
        Value.int
        IntKind.i64
        n66,
        Value.int
        IntKind.i64
        n67,
        Value.int
        IntKind.i64
        n68]
        H69)) ∧
        (b291 = false →
        R63
        [Value.int IntKind.i64
        (bif n92 == 1 then IntKind.i64.wrap (n65 + 1)
        else n65),
        Value.int IntKind.i64
        (bif n263 == n264 then
        IntKind.i64.wrap (n66 + 1)
        else n66),
        Value.int IntKind.i64
        (IntKind.i64.wrap (n67 + 1)),
        Value.int IntKind.i64
        (IntKind.i64.wrap (n68 + 1))]
        H290 ∧
        Less
        (M64
        [Value.int IntKind.i64
        (bif n92 == 1 then IntKind.i64.wrap (n65 + 1)
        else n65),
        Value.int IntKind.i64
        (bif n263 == n264 then
        IntKind.i64.wrap (n66 + 1)
        else n66),
        Value.int IntKind.i64
        (IntKind.i64.wrap (n67 + 1)),
        Value.int IntKind.i64
        (IntKind.i64.wrap (n68 + 1))]
        H290)
        (M64
        [Value.int IntKind.i64 n65,
        Value.int IntKind.i64 n66,
        Value.int IntKind.i64 n67,
        Value.int IntKind.i64 n68]
        H69))) ∧
        (b262 = !true →
        ∃ H304,
        Vx.Sub H304 H261 ∧
        Ob (a7 ≠ none ∧ 0 ≤ n68 ∧ n68 < (↑k8 : Int)) ∧
        ∃ n305 n306 n307 n308 s309 n310 n311 n312 n313 n314 a315 k316 k317 a318 k319 k320 a321
        k322 k323,
        Reads H304 (elemA a7 n68 13)
        [Value.int IntKind.i64 n305, Value.int IntKind.i64 n306, Value.int IntKind.i64 n307,
        Value.int IntKind.i64 n308, Value.string s309, Value.int IntKind.i64 n310,
        Value.int IntKind.i64 n311, Value.int IntKind.i64 n312,
        Value.int IntKind.i64 n313, Value.int IntKind.i64 n314,
        Value.slice a315 k316 k317, Value.slice a318 k319 k320,
        Value.slice a321 k322 k323] ∧
        Ob (at0 k10 ≠ none) ∧
        ∃ b324 n325 n326 n327,
        Reads H304 (fldA (at0 k10) 2)
        [Value.bool b324, Value.int IntKind.i64 n325, Value.int IntKind.i64 n326,
        Value.int IntKind.i64 n327] ∧
        Triple Proofs.Try.prog 80
        #[Value.agg
        #[Value.int IntKind.i64 n305, Value.int IntKind.i64 n306,
        Value.int IntKind.i64 n307, Value.int IntKind.i64 n308,
        Value.string s309, Value.int IntKind.i64 n310,
        Value.int IntKind.i64 n311, Value.int IntKind.i64 n312,
        Value.int IntKind.i64 n313, Value.int IntKind.i64 n314,
        Value.slice a315 k316 k317, Value.slice a318 k319 k320,
        Value.slice a321 k322 k323],
        Value.agg
        #[Value.bool b324, Value.int IntKind.i64 n325, Value.int IntKind.i64 n326,
        Value.int IntKind.i64 n327]]
        H261 fun v328 H329 =>
        ∃ b330,
        v328 = Value.bool b330 ∧
        (b330 = true →
        ∃ H331,
        Vx.Sub H331 H329 ∧
        Ob (at0 k10 ≠ none) ∧
        ∃ a332 k333 k334,
        Reads H331 (fldA (at0 k10) 7)
        [Value.slice a332 k333 k334] ∧
        Ob (a7 ≠ none ∧ 0 ≤ n68 ∧ n68 < (↑k8 : Int)) ∧
        Ob (elemA a7 n68 13 ≠ none) ∧
        ∃ n335,
        Reads H331 (fldA (elemA a7 n68 13) 1)
        [Value.int IntKind.i64 n335] ∧
        ∀ (k336 : Nat),
        H329 k336 = none →
        Vx.Sub H331
        (H329.upd k336
        (Obj.cells #[Value.int IntKind.i64 n335]
        3)) ∧
        EvV Proofs.Try.prog
        (Builtin.append_ #[29, 29] 29
        #[Value.slice a332 k333 k334,
        Value.slice
        (at0 k336) 1
        1])
        (H329.upd k336
        (Obj.cells #[Value.int IntKind.i64 n335]
        3))
        fun v337 H338 =>
        ∃ a339 k340 k341,
        v337 = Value.slice a339 k340 k341 ∧
        Ob
        (at0 k10 ≠
        none) ∧
        ∃ H342,
        Writes H338 H342
        (fldA
        (at0 k10)
        7)
        [Value.slice a339 k340 k341] ∧
        R63
        [Value.int IntKind.i64
        (bif n92 == 1 then
        IntKind.i64.wrap
        (n65 + 1)
        else n65),
        Value.int IntKind.i64 n66,
        Value.int IntKind.i64
        (IntKind.i64.wrap
        (n67 + 1)),
        Value.int IntKind.i64
        (IntKind.i64.wrap
        (n68 + 1))]
        H342 ∧
        Less
        (M64
        [Value.int IntKind.i64
        (bif n92 == 1 then
        IntKind.i64.wrap
        (n65 + 1)
        else n65),
        Value.int IntKind.i64 n66,
        Value.int IntKind.i64
        (IntKind.i64.wrap
        (n67 + 1)),
        Value.int IntKind.i64
        (IntKind.i64.wrap
        (n68 + 1))]
        H342)
        (M64
        [Value.int IntKind.i64 n65,
        Value.int IntKind.i64 n66,
        Value.int IntKind.i64 n67,
        Value.int IntKind.i64 n68]
        H69)) ∧
        (b330 = false →
        R63
        [Value.int IntKind.i64
        (bif n92 == 1 then IntKind.i64.wrap (n65 + 1) else n65),
        Value.int IntKind.i64 n66,
        Value.int IntKind.i64 (IntKind.i64.wrap (n67 + 1)),
        Value.int IntKind.i64 (IntKind.i64.wrap (n68 + 1))]
        H329 ∧
        Less
        (M64
        [Value.int IntKind.i64
        (bif n92 == 1 then IntKind.i64.wrap (n65 + 1) else n65),
        Value.int IntKind.i64 n66,
        Value.int IntKind.i64 (IntKind.i64.wrap (n67 + 1)),
        Value.int IntKind.i64 (IntKind.i64.wrap (n68 + 1))]
        H329)
        (M64
        [Value.int IntKind.i64 n65, Value.int IntKind.i64 n66,
        Value.int IntKind.i64 n67, Value.int IntKind.i64 n68]
        H69)))))) ∧
        (decide (n68 < (↑k8 : Int)) = false →
        Ob (at0 k10 ≠ none) ∧
        ∃ H343,
        Writes H69 H343 (fldA (at0 k10) 0) [Value.bool (decide (n65 ≥ IntKind.i64.wrap (IntKind.i64.wrap (n1 - n4) + 1)))] ∧
        ((n67 == 0) = true →
        Ob (at0 k10 ≠ none) ∧
        ∃ n344,
        Reads H343 (fldA (at0 k10) 6) [Value.int IntKind.i64 n344] ∧
        ((n344 == 0) = false →
        Ob (at0 k10 ≠ none) ∧
        ∃ H345,
        Writes H343 H345 (fldA (at0 k10) 1) [Value.bool (decide (n66 ≥ n4))] ∧
        ∃ b346 b347 b348 n349 n350 n351 n352 a353 k354 k355,
        Reads H345 (at0 k10)
        [Value.bool b346, Value.bool b347, Value.bool b348, Value.int IntKind.i64 n349, Value.int IntKind.i64 n350,
        Value.int IntKind.i64 n351, Value.int IntKind.i64 n352, Value.slice a353 k354 k355] ∧
        Q
        (Value.agg
        #[Value.bool b346, Value.bool b347, Value.bool b348, Value.int IntKind.i64 n349, Value.int IntKind.i64 n350,
        Value.int IntKind.i64 n351, Value.int IntKind.i64 n352, Value.slice a353 k354 k355])
        H345) ∧
        ((n344 == 0) = !false →
        Ob (at0 k10 ≠ none) ∧
        ∃ H356,
        Writes H343 H356 (fldA (at0 k10) 1) [Value.bool true] ∧
        ∃ b357 b358 b359 n360 n361 n362 n363 a364 k365 k366,
        Reads H356 (at0 k10)
        [Value.bool b357, Value.bool b358, Value.bool b359, Value.int IntKind.i64 n360, Value.int IntKind.i64 n361,
        Value.int IntKind.i64 n362, Value.int IntKind.i64 n363, Value.slice a364 k365 k366] ∧
        Q
        (Value.agg
        #[Value.bool b357, Value.bool b358, Value.bool b359, Value.int IntKind.i64 n360, Value.int IntKind.i64 n361,
        Value.int IntKind.i64 n362, Value.int IntKind.i64 n363, Value.slice a364 k365 k366])
        H356)) ∧
        ((n67 == 0) = !true →
        Ob (at0 k10 ≠ none) ∧
        ∃ H367,
        Writes H343 H367 (fldA (at0 k10) 1) [Value.bool false] ∧
        ∃ b368 b369 b370 n371 n372 n373 n374 a375 k376 k377,
        Reads H367 (at0 k10)
        [Value.bool b368, Value.bool b369, Value.bool b370, Value.int IntKind.i64 n371, Value.int IntKind.i64 n372, Value.int IntKind.i64 n373,
        Value.int IntKind.i64 n374, Value.slice a375 k376 k377] ∧
        Q
        (Value.agg
        #[Value.bool b368, Value.bool b369, Value.bool b370, Value.int IntKind.i64 n371, Value.int IntKind.i64 n372,
        Value.int IntKind.i64 n373, Value.int IntKind.i64 n374, Value.slice a375 k376 k377])
        H367))))) :
    Triple Go.Proofs.Try.prog 57 ([Value.agg #[Value.int IntKind.i64 n1, Value.int IntKind.i64 n2, Value.int IntKind.i64 n3, Value.int IntKind.i64 n4, Value.int IntKind.i64 n5, Value.int IntKind.i64 n6], Value.slice a7 k8 k9]).toArray H Q :=
  Triple.of_vc rSettle.cx (by kernel_rfl) h

theorem rHold.vc (a1 : Option Addr) (k2 : Nat) (k3 : Nat) (b4 : Bool) (n5 : Int) (n6 : Int) (n7 : Int) (H : PHeap) (Q : Value → PHeap → Prop)
    (h : ∃ (R8 : Rl) (M9 : Mu),
  R8 [Value.slice none 0 0, Value.int IntKind.i64 0] H ∧
    ∀ (a10 : Option Addr) (k11 k12 : Nat) (n13 : Int) (H14 : PHeap),
      R8 [Value.slice a10 k11 k12, Value.int IntKind.i64 n13] H14 →
        (decide (n13 < (↑k2 : Int)) = true →
        ∃ H15,
        Vx.Sub H15 H14 ∧
        Ob (a1 ≠ none ∧ 0 ≤ n13 ∧ n13 < (↑k2 : Int)) ∧
        ∃ n16 n17 n18 n19 s20 n21 n22 n23 n24 n25 a26 k27 k28 a29 k30 k31 a32 k33 k34,
        Reads H15 (elemA a1 n13 13)
        [Value.int IntKind.i64 n16, Value.int IntKind.i64 n17, Value.int IntKind.i64 n18, Value.int IntKind.i64 n19, Value.string s20, Value.int IntKind.i64 n21,
        Value.int IntKind.i64 n22, Value.int IntKind.i64 n23, Value.int IntKind.i64 n24, Value.int IntKind.i64 n25, Value.slice a26 k27 k28, Value.slice a29 k30 k31,
        Value.slice a32 k33 k34] ∧
        Triple Proofs.Try.prog 80
        #[Value.agg
        #[Value.int IntKind.i64 n16, Value.int IntKind.i64 n17, Value.int IntKind.i64 n18, Value.int IntKind.i64 n19, Value.string s20, Value.int IntKind.i64 n21,
        Value.int IntKind.i64 n22, Value.int IntKind.i64 n23, Value.int IntKind.i64 n24, Value.int IntKind.i64 n25, Value.slice a26 k27 k28, Value.slice a29 k30 k31,
        Value.slice a32 k33 k34],
        Value.agg #[Value.bool b4, Value.int IntKind.i64 n5, Value.int IntKind.i64 n6, Value.int IntKind.i64 n7]]
        H14 fun v35 H36 =>
        ∃ b37,
        v35 = Value.bool b37 ∧
        (b37 = true →
        Ob (a1 ≠ none ∧ 0 ≤ n13 ∧ n13 < (↑k2 : Int)) ∧
        Ob (elemA a1 n13 13 ≠ none) ∧
        ∃ n38,
        Reads H36 (fldA (elemA a1 n13 13) 1) [Value.int IntKind.i64 n38] ∧
        ∀ (k39 : Nat),
        H36 k39 = none →
        EvV Proofs.Try.prog (Builtin.append_ #[29, 29] 29 #[Value.slice a10 k11 k12, Value.slice (at0 k39) 1 1])
        (H36.upd k39 (Obj.cells #[Value.int IntKind.i64 n38] 3)) fun v40 H41 =>
        ∃ a42 k43 k44,
        v40 = Value.slice a42 k43 k44 ∧
        R8 [Value.slice a42 k43 k44, Value.int IntKind.i64 (IntKind.i64.wrap (n13 + 1))] H41 ∧
        Less (M9 [Value.slice a42 k43 k44, Value.int IntKind.i64 (IntKind.i64.wrap (n13 + 1))] H41)
        (M9 [Value.slice a10 k11 k12, Value.int IntKind.i64 n13] H14)) ∧
        (b37 = false →
        R8 [Value.slice a10 k11 k12, Value.int IntKind.i64 (IntKind.i64.wrap (n13 + 1))] H36 ∧
        Less (M9 [Value.slice a10 k11 k12, Value.int IntKind.i64 (IntKind.i64.wrap (n13 + 1))] H36) (M9 [Value.slice a10 k11 k12, Value.int IntKind.i64 n13] H14))) ∧
        (decide (n13 < (↑k2 : Int)) = false → Q (Value.slice a10 k11 k12) H14)) :
    Triple Go.Proofs.Try.prog 58 ([Value.slice a1 k2 k3, Value.agg #[Value.bool b4, Value.int IntKind.i64 n5, Value.int IntKind.i64 n6, Value.int IntKind.i64 n7]]).toArray H Q :=
  Triple.of_vc rHold.cx (by kernel_rfl) h

theorem rHolds.vc (n1 : Int) (n2 : Int) (n3 : Int) (n4 : Int) (s5 : ByteArray) (n6 : Int) (n7 : Int) (n8 : Int) (n9 : Int) (n10 : Int) (a11 : Option Addr) (k12 : Nat) (k13 : Nat) (a14 : Option Addr) (k15 : Nat) (k16 : Nat) (a17 : Option Addr) (k18 : Nat) (k19 : Nat) (b20 : Bool) (n21 : Int) (n22 : Int) (n23 : Int) (H : PHeap) (Q : Value → PHeap → Prop)
    (h : Q (Value.bool (bif b20 then bif n10 == 2 then bif n6 == n21 then n7 == n22 else false else false else false)) H) :
    Triple Go.Proofs.Try.prog 80 ([Value.agg
    #[Value.int IntKind.i64 n1, Value.int IntKind.i64 n2, Value.int IntKind.i64 n3, Value.int IntKind.i64 n4, Value.string s5, Value.int IntKind.i64 n6, Value.int IntKind.i64 n7,
      Value.int IntKind.i64 n8, Value.int IntKind.i64 n9, Value.int IntKind.i64 n10, Value.slice a11 k12 k13, Value.slice a14 k15 k16, Value.slice a17 k18 k19],
  Value.agg #[Value.bool b20, Value.int IntKind.i64 n21, Value.int IntKind.i64 n22, Value.int IntKind.i64 n23]]).toArray H Q :=
  Triple.of_vc rHolds.cx (by kernel_rfl) h

theorem rMarked.vc (n1 : Int) (n2 : Int) (n3 : Int) (n4 : Int) (s5 : ByteArray) (n6 : Int) (n7 : Int) (n8 : Int) (n9 : Int) (n10 : Int) (a11 : Option Addr) (k12 : Nat) (k13 : Nat) (a14 : Option Addr) (k15 : Nat) (k16 : Nat) (a17 : Option Addr) (k18 : Nat) (k19 : Nat) (H : PHeap) (Q : Value → PHeap → Prop)
    (h : Q (Value.bool (bif n1 == 14 then bif decide (n10 ≥ 2) then decide (n10 ≤ 4) else false else false)) H) :
    Triple Go.Proofs.Try.prog 78 ([Value.agg
    #[Value.int IntKind.i64 n1, Value.int IntKind.i64 n2, Value.int IntKind.i64 n3, Value.int IntKind.i64 n4, Value.string s5, Value.int IntKind.i64 n6, Value.int IntKind.i64 n7,
      Value.int IntKind.i64 n8, Value.int IntKind.i64 n9, Value.int IntKind.i64 n10, Value.slice a11 k12 k13, Value.slice a14 k15 k16, Value.slice a17 k18 k19]]).toArray H Q :=
  Triple.of_vc rMarked.cx (by kernel_rfl) h

theorem rWho.vc (n1 : Int) (n2 : Int) (n3 : Int) (n4 : Int) (s5 : ByteArray) (n6 : Int) (n7 : Int) (n8 : Int) (n9 : Int) (n10 : Int) (a11 : Option Addr) (k12 : Nat) (k13 : Nat) (a14 : Option Addr) (k15 : Nat) (k16 : Nat) (a17 : Option Addr) (k18 : Nat) (k19 : Nat) (n20 : Int) (H : PHeap) (Q : Value → PHeap → Prop)
    (h : (decide (n20 ≥ (↑k12 : Int)) = true → Q (Value.int IntKind.i64 0) H) ∧
  (decide (n20 ≥ (↑k12 : Int)) = false → Ob (a11 ≠ none ∧ 0 ≤ n20 ∧ n20 < (↑k12 : Int)) ∧ ∃ n21, Reads H (elemA a11 n20 1) [Value.int IntKind.i64 n21] ∧ Q (Value.int IntKind.i64 n21) H)) :
    Triple Go.Proofs.Try.prog 79 ([Value.agg
    #[Value.int IntKind.i64 n1, Value.int IntKind.i64 n2, Value.int IntKind.i64 n3, Value.int IntKind.i64 n4, Value.string s5, Value.int IntKind.i64 n6, Value.int IntKind.i64 n7,
      Value.int IntKind.i64 n8, Value.int IntKind.i64 n9, Value.int IntKind.i64 n10, Value.slice a11 k12 k13, Value.slice a14 k15 k16, Value.slice a17 k18 k19],
  Value.int IntKind.i64 n20]).toArray H Q :=
  Triple.of_vc rWho.cx (by kernel_rfl) h

end Go.Vc
