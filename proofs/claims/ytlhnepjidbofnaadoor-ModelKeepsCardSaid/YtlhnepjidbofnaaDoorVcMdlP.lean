/- What is to be shown of each function, in its normal form. Printed by a program of this session's, checked by the kernel. -/
import Derived.Test.YtlhnepjidbofnaaDoorE2
import Derived.Test.YtlhnepjidbofnaaDoorProg
set_option linter.unusedVariables false
set_option maxRecDepth 100000
namespace Go.Vc
open Go.Vx Go
def lawKeeps.cx : Cx := ⟨[5, 6], [(5, [25], []), (13, [46], []), (19, [61], [])], [], []⟩
def lFar.cx : Cx := ⟨[], [(3, [3, 8], [])], [], []⟩
def lAlive.cx : Cx := ⟨[6], [(8, [34], [])], [], []⟩
def lFarS.cx : Cx := ⟨[], [(2, [3], [])], [], []⟩

theorem lawKeeps.vc (a1 : Option Addr) (k2 : Nat) (k3 : Nat) (n4 : Int) (n5 : Int) (n6 : Int) (n7 : Int) (s8 : ByteArray) (a9 : Option Addr) (k10 : Nat) (k11 : Nat) (n12 : Int) (n13 : Int) (a14 : Option Addr) (k15 : Nat) (k16 : Nat) (a17 : Option Addr) (k18 : Nat) (k19 : Nat) (H : PHeap) (Q : Value → PHeap → Prop)
    (h : ∃ H20,
  Vx.Sub H20 H ∧
    ∀ (k21 : Nat),
      H k21 = none →
        Vx.Sub H20 (H.upd k21 (Obj.cells #[] 31)) ∧
        EvV Proofs.Tryd.prog (Builtin.append_ #[22, 22] 22 #[Value.slice (at0 k21) 0 0, Value.slice a1 k2 k3]) (H.upd k21 (Obj.cells #[] 31)) fun v22 H23 =>
        ∃ a24 k25 k26,
        v22 = Value.slice a24 k25 k26 ∧
        Vx.Sub H20 H23 ∧
        ∀ (k27 : Nat),
        H23 k27 = none →
        EvV Proofs.Tryd.prog (Builtin.append_ #[22, 22] 22 #[Value.slice a24 k25 k26, Value.slice (at0 k27) 1 1])
        (H23.upd k27
        (Obj.cells
        #[Value.int IntKind.i64 n4, Value.int IntKind.i64 n5, Value.int IntKind.i64 n6, Value.int IntKind.i64 n7, Value.string s8, Value.slice a9 k10 k11,
        Value.int IntKind.i64 n12, Value.int IntKind.i64 n13, Value.slice a14 k15 k16, Value.slice a17 k18 k19]
        31))
        fun v28 H29 =>
        ∃ a30 k31 k32,
        v28 = Value.slice a30 k31 k32 ∧
        Triple Proofs.Tryd.prog 4 #[Value.slice a30 k31 k32] H29 fun v33 H34 =>
        ∃ b35,
        v33 = Value.bool b35 ∧
        (b35 = true → Triple Proofs.Tryd.prog 5 #[] H34 fun v36 H37 => ∃ b38, v36 = Value.bool b38 ∧ Q (Value.bool b38) H37) ∧
        (b35 = false →
        ∀ (k39 : Nat),
        H34 k39 = none →
        ∀ (k40 : Nat),
        H34.upd k39 (Obj.cells #[Value.slice none 0 0, Value.map none] 37) k40 = none →
        ∃ (R41 : Rl) (M42 : Mu),
        R41 [Value.int IntKind.i64 0]
        ((H34.upd k39 (Obj.cells #[Value.slice none 0 0, Value.map none] 37)).upd k40 (Obj.cells #[Value.slice none 0 0, Value.map none] 37)) ∧
        ∀ (n43 : Int) (H44 : PHeap),
        R41 [Value.int IntKind.i64 n43] H44 →
        (decide (n43 < (↑k2 : Int)) = true →
        Ob (a1 ≠ none ∧ 0 ≤ n43 ∧ n43 < (↑k2 : Int)) ∧
        ∃ n45 n46 n47 n48 s49 a50 k51 k52 n53 n54 a55 k56 k57 a58 k59 k60,
        Reads H44 (elemA a1 n43 10)
        [Value.int IntKind.i64 n45, Value.int IntKind.i64 n46, Value.int IntKind.i64 n47, Value.int IntKind.i64 n48, Value.string s49,
        Value.slice a50 k51 k52, Value.int IntKind.i64 n53, Value.int IntKind.i64 n54, Value.slice a55 k56 k57, Value.slice a58 k59 k60] ∧
        ∃ H61,
        Vx.Sub H61 H44 ∧
        Triple Proofs.Tryd.prog 6
        #[Value.pointer (at0 k39),
        Value.agg
        #[Value.int IntKind.i64 n45, Value.int IntKind.i64 n46, Value.int IntKind.i64 n47, Value.int IntKind.i64 n48,
        Value.string s49, Value.slice a50 k51 k52, Value.int IntKind.i64 n53, Value.int IntKind.i64 n54, Value.slice a55 k56 k57,
        Value.slice a58 k59 k60]]
        H44 fun v62 H63 =>
        ∃ b64,
        v62 = Value.bool b64 ∧
        Vx.Sub H61 H63 ∧
        Triple Proofs.Tryd.prog 6
        #[Value.pointer (at0 k40),
        Value.agg
        #[Value.int IntKind.i64 n45, Value.int IntKind.i64 n46, Value.int IntKind.i64 n47, Value.int IntKind.i64 n48,
        Value.string s49, Value.slice a50 k51 k52, Value.int IntKind.i64 n53, Value.int IntKind.i64 n54,
        Value.slice a55 k56 k57, Value.slice a58 k59 k60]]
        H63 fun v65 H66 =>
        ∃ b67,
        v65 = Value.bool b67 ∧
        ((!b64 == b67) = true → Q (Value.bool false) H66) ∧
        ((!b64 == b67) = false →
        R41 [Value.int IntKind.i64 (IntKind.i64.wrap (n43 + 1))] H66 ∧
        Less (M42 [Value.int IntKind.i64 (IntKind.i64.wrap (n43 + 1))] H66) (M42 [Value.int IntKind.i64 n43] H44))) ∧
        (decide (n43 < (↑k2 : Int)) = false →
        Triple Proofs.Tryd.prog 6
        #[Value.pointer (at0 k39),
        Value.agg
        #[Value.int IntKind.i64 n4, Value.int IntKind.i64 n5, Value.int IntKind.i64 n6, Value.int IntKind.i64 n7, Value.string s8,
        Value.slice a9 k10 k11, Value.int IntKind.i64 n12, Value.int IntKind.i64 n13, Value.slice a14 k15 k16, Value.slice a17 k18 k19]]
        H44 fun v68 H69 =>
        ∃ b70,
        v68 = Value.bool b70 ∧
        (b70 = true → Triple Proofs.Tryd.prog 5 #[] H69 fun v71 H72 => ∃ b73, v71 = Value.bool b73 ∧ Q (Value.bool b73) H72) ∧
        (b70 = false →
        ∃ H74,
        Vx.Sub H74 H69 ∧
        Triple Proofs.Tryd.prog 7 #[Value.slice a1 k2 k3] H69 fun v75 H76 =>
        ∃ a77 k78 k79,
        v75 = Value.slice a77 k78 k79 ∧
        Vx.Sub H74 H76 ∧
        ∀ (k80 : Nat),
        H76 k80 = none →
        EvV Proofs.Tryd.prog
        (Builtin.append_ #[27, 27] 27 #[Value.slice a77 k78 k79, Value.slice (at0 k80) 1 1])
        (H76.upd k80 (Obj.cells #[Value.string s8] 9)) fun v81 H82 =>
        ∃ a83 k84 k85,
        v81 = Value.slice a83 k84 k85 ∧
        ∃ (R86 : Rl) (M87 : Mu),
        R86 [Value.int IntKind.i64 0] H82 ∧
        ∀ (n88 : Int) (H89 : PHeap),
        R86 [Value.int IntKind.i64 n88] H89 →
        (decide (n88 < (↑k84 : Int)) = true →
        Ob (a83 ≠ none ∧ 0 ≤ n88 ∧ n88 < (↑k84 : Int)) ∧
        ∃ s90,
        Reads H89 (elemA a83 n88 1) [Value.string s90] ∧
        Triple Proofs.Tryd.prog 8
        #[Value.pointer (at0 k39), Value.string s90] H89 fun v91 H92 =>
        ∃ a93 k94 k95,
        v91 = Value.slice a93 k94 k95 ∧
        Triple Proofs.Tryd.prog 8
        #[Value.pointer (at0 k40), Value.string s90] H92
        fun v96 H97 =>
        ∃ a98 k99 k100,
        v96 = Value.slice a98 k99 k100 ∧
        (((↑k94 : Int) != (↑k99 : Int)) = true → Q (Value.bool false) H97) ∧
        (((↑k94 : Int) != (↑k99 : Int)) = false →
        ∃ (R101 : Rl) (M102 : Mu),
        R101 [Value.int IntKind.i64 0] H97 ∧
        ∀ (n103 : Int) (H104 : PHeap),
        R101 [Value.int IntKind.i64 n103] H104 →
        (decide (n103 < (↑k94 : Int)) = true →
        ∃ H105,
        Vx.Sub H105 H104 ∧
        Ob (a93 ≠ none ∧ 0 ≤ n103 ∧ n103 < (↑k94 : Int)) ∧
        Ob (elemA a93 n103 2 ≠ none) ∧
        ∃ b106,
        Reads H105 (fldA (elemA a93 n103 2) 0)
        [Value.bool b106] ∧
        Ob (a98 ≠ none ∧ 0 ≤ n103 ∧ n103 < (↑k99 : Int)) ∧
        Ob (elemA a98 n103 2 ≠ none) ∧
        ∃ b107,
        Reads H105 (fldA (elemA a98 n103 2) 0)
        [Value.bool b107] ∧
        ((!b106 == b107) = false →
        Ob
        (a93 ≠ none ∧
        0 ≤ n103 ∧ n103 < (↑k94 : Int)) ∧
        Ob (elemA a93 n103 2 ≠ none) ∧
        ∃ a108 k109 k110,
        Reads H105
        (fldA (elemA a93 n103 2) 1)
        [Value.slice a108 k109 k110] ∧
        LookV Proofs.Tryd.prog
        (convert 23 9
        (Value.slice a108 k109
        k110))
        H105 fun v111 =>
        ∃ s112,
        v111 = Value.string s112 ∧
        Ob
        (a98 ≠ none ∧
        0 ≤ n103 ∧
        n103 <
        (↑k99 : Int)) ∧
        Ob
        (elemA a98 n103 2 ≠
        none) ∧
        ∃ a113 k114 k115,
        Reads H105
        (fldA
        (elemA a98
        n103 2)
        1)
        [Value.slice
        a113 k114
        k115] ∧
        LookV
        Proofs.Tryd.prog
        (convert 23 9
        (Value.slice
        a113 k114
        k115))
        H105 fun v116 =>
        ∃ s117,
        v116 =
        Value.string
        s117 ∧
        ((!eqS s112
        s117) =
        true →
        Q
        (Value.bool
        false)
        H104) ∧
        ((!eqS
        s112
        s117) =
        false →
        R101
        [Value.int
        IntKind.i64
        (IntKind.i64.wrap
        (n103 +
        1))]
        H104 ∧
        Less
        (M102
        [Value.int
        IntKind.i64
        (IntKind.i64.wrap
        (n103 +
        1))]
        H104)
        (M102
        [Value.int
        IntKind.i64
        n103]
        H104))) ∧
        ((!b106 == b107) = !false →
        Q (Value.bool false) H104)) ∧
        (decide (n103 < (↑k94 : Int)) = false →
        R86 [Value.int IntKind.i64 (IntKind.i64.wrap (n88 + 1))] H104 ∧
        Less
        (M87 [Value.int IntKind.i64 (IntKind.i64.wrap (n88 + 1))]
        H104)
        (M87 [Value.int IntKind.i64 n88] H89)))) ∧
        (decide (n88 < (↑k84 : Int)) = false →
        ∃ H118,
        Vx.Sub H118 H89 ∧
        Triple Proofs.Tryd.prog 6
        #[Value.pointer (at0 k39),
        Value.agg
        #[Value.int IntKind.i64 1, Value.int IntKind.i64 (↑k2 : Int), Value.int IntKind.i64 0,
        Value.int IntKind.i64 4, Value.string ({ data := #[] } : ByteArray), Value.slice none 0 0,
        Value.int IntKind.i64 0, Value.int IntKind.i64 0, Value.slice none 0 0,
        Value.slice none 0 0]]
        H89 fun v119 H120 =>
        ∃ b121,
        v119 = Value.bool b121 ∧
        Vx.Sub H118 H120 ∧
        Triple Proofs.Tryd.prog 6
        #[Value.pointer (at0 k40),
        Value.agg
        #[Value.int IntKind.i64 1, Value.int IntKind.i64 (↑k2 : Int),
        Value.int IntKind.i64 0, Value.int IntKind.i64 4,
        Value.string ({ data := #[] } : ByteArray), Value.slice none 0 0, Value.int IntKind.i64 0,
        Value.int IntKind.i64 0, Value.slice none 0 0, Value.slice none 0 0]]
        H120 fun v122 H123 =>
        ∃ b124,
        v122 = Value.bool b124 ∧
        ((b121 == b124) = true →
        Triple Proofs.Tryd.prog 5 #[] H123 fun v125 H126 =>
        ∃ b127, v125 = Value.bool b127 ∧ Q (Value.bool b127) H126) ∧
        ((b121 == b124) = !true → Q (Value.bool false) H123)))))) :
    Triple Go.Proofs.Tryd.prog 3 ([Value.slice a1 k2 k3,
  Value.agg
    #[Value.int IntKind.i64 n4, Value.int IntKind.i64 n5, Value.int IntKind.i64 n6, Value.int IntKind.i64 n7, Value.string s8, Value.slice a9 k10 k11, Value.int IntKind.i64 n12,
      Value.int IntKind.i64 n13, Value.slice a14 k15 k16, Value.slice a17 k18 k19]]).toArray H Q :=
  Triple.of_vc lawKeeps.cx (by kernel_rfl) h

theorem lFar.vc (a1 : Option Addr) (k2 : Nat) (k3 : Nat) (H : PHeap) (Q : Value → PHeap → Prop)
    (h : ∃ (R4 : Rl) (M5 : Mu),
  R4 [Value.int IntKind.i64 0, Value.int IntKind.i64 0] H ∧
    ∀ (n6 n7 : Int) (H8 : PHeap),
      R4 [Value.int IntKind.i64 n6, Value.int IntKind.i64 n7] H8 →
        (decide (n7 < (↑k2 : Int)) = true →
        Ob (a1 ≠ none ∧ 0 ≤ n7 ∧ n7 < (↑k2 : Int)) ∧
        ∃ n9 n10 n11 n12 s13 a14 k15 k16 n17 n18 a19 k20 k21 a22 k23 k24,
        Reads H8 (elemA a1 n7 10)
        [Value.int IntKind.i64 n9, Value.int IntKind.i64 n10, Value.int IntKind.i64 n11, Value.int IntKind.i64 n12, Value.string s13, Value.slice a14 k15 k16, Value.int IntKind.i64 n17,
        Value.int IntKind.i64 n18, Value.slice a19 k20 k21, Value.slice a22 k23 k24] ∧
        (decide ((↑s13.size : Int) > 40) = false →
        (decide ((↑k15 : Int) > 300) = false →
        (decide ((↑k20 : Int) > 300) = false →
        Triple Proofs.Tryd.prog 9 #[Value.slice a22 k23 k24] H8 fun v25 H26 =>
        ∃ b27,
        v25 = Value.bool b27 ∧
        (b27 = true → Q (Value.bool true) H26) ∧
        (b27 = false →
        R4 [Value.int IntKind.i64 (bif bif n9 == 4 then true else n17 == 13 then IntKind.i64.wrap (n6 + 1) else n6), Value.int IntKind.i64 (IntKind.i64.wrap (n7 + 1))]
        H26 ∧
        Less
        (M5
        [Value.int IntKind.i64 (bif bif n9 == 4 then true else n17 == 13 then IntKind.i64.wrap (n6 + 1) else n6),
        Value.int IntKind.i64 (IntKind.i64.wrap (n7 + 1))]
        H26)
        (M5 [Value.int IntKind.i64 n6, Value.int IntKind.i64 n7] H8))) ∧
        (decide ((↑k20 : Int) > 300) = !false → Q (Value.bool true) H8)) ∧
        (decide ((↑k15 : Int) > 300) = !false → Q (Value.bool true) H8)) ∧
        (decide ((↑s13.size : Int) > 40) = !false → Q (Value.bool true) H8)) ∧
        (decide (n7 < (↑k2 : Int)) = false → Q (Value.bool (bif decide (n6 > 4) then true else decide ((↑k2 : Int) > 40))) H8)) :
    Triple Go.Proofs.Tryd.prog 4 ([Value.slice a1 k2 k3]).toArray H Q :=
  Triple.of_vc lFar.cx (by kernel_rfl) h

theorem lAlive.vc (H : PHeap) (Q : Value → PHeap → Prop)
    (h : ∀ (k1 : Nat),
  H k1 = none →
    ∀ (k2 : Nat),
      H.upd k1 (Obj.cells #[Value.int IntKind.u8 7] 5) k2 = none →
        ∀ (k3 : Nat),
        (H.upd k1 (Obj.cells #[Value.int IntKind.u8 7] 5)).upd k2
        (Obj.cells
        #[Value.int IntKind.i64 1, Value.int IntKind.i64 0, Value.int IntKind.i64 0, Value.int IntKind.i64 1, Value.string { data := #[97] },
        Value.slice (at0 k1) 1 1, Value.int IntKind.i64 0, Value.int IntKind.i64 0, Value.slice none 0 0, Value.slice none 0 0, Value.int IntKind.i64 2,
        Value.int IntKind.i64 0, Value.int IntKind.i64 0, Value.int IntKind.i64 1, Value.string { data := #[97] }, Value.slice (at0 k1) 1 1,
        Value.int IntKind.i64 0, Value.int IntKind.i64 0, Value.slice none 0 0, Value.slice none 0 0, Value.int IntKind.i64 3, Value.int IntKind.i64 0, Value.int IntKind.i64 0,
        Value.int IntKind.i64 0, Value.string ({ data := #[] } : ByteArray), Value.slice none 0 0, Value.int IntKind.i64 13, Value.int IntKind.i64 0, Value.slice none 0 0, Value.slice none 0 0,
        Value.int IntKind.i64 1, Value.int IntKind.i64 1, Value.int IntKind.i64 0, Value.int IntKind.i64 2, Value.string { data := #[97] }, Value.slice none 0 0, Value.int IntKind.i64 0,
        Value.int IntKind.i64 0, Value.slice none 0 0, Value.slice none 0 0, Value.int IntKind.i64 2, Value.int IntKind.i64 1, Value.int IntKind.i64 0, Value.int IntKind.i64 2,
        Value.string { data := #[97] }, Value.slice none 0 0, Value.int IntKind.i64 0, Value.int IntKind.i64 0, Value.slice none 0 0, Value.slice none 0 0]
        31)
        k3 =
        none →
        ∀ (k4 : Nat),
        ((H.upd k1 (Obj.cells #[Value.int IntKind.u8 7] 5)).upd k2
        (Obj.cells
        #[Value.int IntKind.i64 1, Value.int IntKind.i64 0, Value.int IntKind.i64 0, Value.int IntKind.i64 1, Value.string { data := #[97] },
        Value.slice (at0 k1) 1 1, Value.int IntKind.i64 0, Value.int IntKind.i64 0, Value.slice none 0 0, Value.slice none 0 0, Value.int IntKind.i64 2,
        Value.int IntKind.i64 0, Value.int IntKind.i64 0, Value.int IntKind.i64 1, Value.string { data := #[97] }, Value.slice (at0 k1) 1 1,
        Value.int IntKind.i64 0, Value.int IntKind.i64 0, Value.slice none 0 0, Value.slice none 0 0, Value.int IntKind.i64 3, Value.int IntKind.i64 0, Value.int IntKind.i64 0,
        Value.int IntKind.i64 0, Value.string ({ data := #[] } : ByteArray), Value.slice none 0 0, Value.int IntKind.i64 13, Value.int IntKind.i64 0, Value.slice none 0 0, Value.slice none 0 0,
        Value.int IntKind.i64 1, Value.int IntKind.i64 1, Value.int IntKind.i64 0, Value.int IntKind.i64 2, Value.string { data := #[97] }, Value.slice none 0 0,
        Value.int IntKind.i64 0, Value.int IntKind.i64 0, Value.slice none 0 0, Value.slice none 0 0, Value.int IntKind.i64 2, Value.int IntKind.i64 1, Value.int IntKind.i64 0,
        Value.int IntKind.i64 2, Value.string { data := #[97] }, Value.slice none 0 0, Value.int IntKind.i64 0, Value.int IntKind.i64 0, Value.slice none 0 0, Value.slice none 0 0]
        31)).upd
        k3 (Obj.cells #[Value.int IntKind.u8 7] 5) k4 =
        none →
        ∃ (R5 : Rl) (M6 : Mu),
        R5 [Value.int IntKind.i64 0]
        ((((H.upd k1 (Obj.cells #[Value.int IntKind.u8 7] 5)).upd k2
        (Obj.cells
        #[Value.int IntKind.i64 1, Value.int IntKind.i64 0, Value.int IntKind.i64 0, Value.int IntKind.i64 1, Value.string { data := #[97] },
        Value.slice (at0 k1) 1 1, Value.int IntKind.i64 0, Value.int IntKind.i64 0, Value.slice none 0 0, Value.slice none 0 0,
        Value.int IntKind.i64 2, Value.int IntKind.i64 0, Value.int IntKind.i64 0, Value.int IntKind.i64 1, Value.string { data := #[97] },
        Value.slice (at0 k1) 1 1, Value.int IntKind.i64 0, Value.int IntKind.i64 0, Value.slice none 0 0, Value.slice none 0 0,
        Value.int IntKind.i64 3, Value.int IntKind.i64 0, Value.int IntKind.i64 0, Value.int IntKind.i64 0, Value.string ({ data := #[] } : ByteArray), Value.slice none 0 0,
        Value.int IntKind.i64 13, Value.int IntKind.i64 0, Value.slice none 0 0, Value.slice none 0 0, Value.int IntKind.i64 1, Value.int IntKind.i64 1,
        Value.int IntKind.i64 0, Value.int IntKind.i64 2, Value.string { data := #[97] }, Value.slice none 0 0, Value.int IntKind.i64 0, Value.int IntKind.i64 0,
        Value.slice none 0 0, Value.slice none 0 0, Value.int IntKind.i64 2, Value.int IntKind.i64 1, Value.int IntKind.i64 0, Value.int IntKind.i64 2,
        Value.string { data := #[97] }, Value.slice none 0 0, Value.int IntKind.i64 0, Value.int IntKind.i64 0, Value.slice none 0 0, Value.slice none 0 0]
        31)).upd
        k3 (Obj.cells #[Value.int IntKind.u8 7] 5)).upd
        k4 (Obj.cells #[Value.slice none 0 0, Value.map none] 37)) ∧
        ∀ (n7 : Int) (H8 : PHeap),
        R5 [Value.int IntKind.i64 n7] H8 →
        (decide (n7 < (↑5 : Int)) = true →
        Ob (at0 k2 ≠ none ∧ 0 ≤ n7 ∧ n7 < (↑5 : Int)) ∧
        ∃ n9 n10 n11 n12 s13 a14 k15 k16 n17 n18 a19 k20 k21 a22 k23 k24,
        Reads H8 (elemA (at0 k2) n7 10)
        [Value.int IntKind.i64 n9, Value.int IntKind.i64 n10, Value.int IntKind.i64 n11, Value.int IntKind.i64 n12, Value.string s13, Value.slice a14 k15 k16,
        Value.int IntKind.i64 n17, Value.int IntKind.i64 n18, Value.slice a19 k20 k21, Value.slice a22 k23 k24] ∧
        Triple Proofs.Tryd.prog 6
        #[Value.pointer (at0 k4),
        Value.agg
        #[Value.int IntKind.i64 n9, Value.int IntKind.i64 n10, Value.int IntKind.i64 n11, Value.int IntKind.i64 n12, Value.string s13, Value.slice a14 k15 k16,
        Value.int IntKind.i64 n17, Value.int IntKind.i64 n18, Value.slice a19 k20 k21, Value.slice a22 k23 k24]]
        H8 fun v25 H26 =>
        ∃ b27,
        v25 = Value.bool b27 ∧
        ((!b27) = true → Q (Value.bool false) H26) ∧
        ((!b27) = false →
        R5 [Value.int IntKind.i64 (IntKind.i64.wrap (n7 + 1))] H26 ∧
        Less (M6 [Value.int IntKind.i64 (IntKind.i64.wrap (n7 + 1))] H26) (M6 [Value.int IntKind.i64 n7] H8))) ∧
        (decide (n7 < (↑5 : Int)) = false →
        Triple Proofs.Tryd.prog 8 #[Value.pointer (at0 k4), Value.string { data := #[97] }] H8 fun v28 H29 =>
        ∃ a30 k31 k32,
        v28 = Value.slice a30 k31 k32 ∧
        ∃ H33,
        Vx.Sub H33 H29 ∧
        ∀ (k34 : Nat),
        H29 k34 = none →
        Vx.Sub H33 (H29.upd k34 (Obj.cells #[] 31)) ∧
        EvV Proofs.Tryd.prog (Builtin.append_ #[22, 22] 22 #[Value.slice (at0 k34) 0 0, Value.slice (at0 k2) 5 5])
        (H29.upd k34 (Obj.cells #[] 31)) fun v35 H36 =>
        ∃ a37 k38 k39,
        v35 = Value.slice a37 k38 k39 ∧
        Vx.Sub H33 H36 ∧
        ∀ (k40 : Nat),
        H36 k40 = none →
        EvV Proofs.Tryd.prog (Builtin.append_ #[22, 22] 22 #[Value.slice a37 k38 k39, Value.slice (at0 k40) 1 1])
        (H36.upd k40
        (Obj.cells
        #[Value.int IntKind.i64 3, Value.int IntKind.i64 1, Value.int IntKind.i64 0, Value.int IntKind.i64 0, Value.string ({ data := #[] } : ByteArray),
        Value.slice none 0 0, Value.int IntKind.i64 10, Value.int IntKind.i64 0, Value.slice none 0 0, Value.slice none 0 0]
        31))
        fun v41 H42 =>
        ∃ a43 k44 k45,
        v41 = Value.slice a43 k44 k45 ∧
        Triple Proofs.Tryd.prog 10 #[Value.slice a43 k44 k45] H42 fun v46 H47 =>
        ∃ b48,
        v46 = Value.bool b48 ∧
        Triple Proofs.Tryd.prog 6
        #[Value.pointer (at0 k4),
        Value.agg
        #[Value.int IntKind.i64 3, Value.int IntKind.i64 1, Value.int IntKind.i64 0, Value.int IntKind.i64 0,
        Value.string ({ data := #[] } : ByteArray), Value.slice none 0 0, Value.int IntKind.i64 0, Value.int IntKind.i64 0,
        Value.slice (at0 k3) 1 1, Value.slice none 0 0]]
        H47 fun v49 H50 =>
        ∃ b51,
        v49 = Value.bool b51 ∧
        Triple Proofs.Tryd.prog 6
        #[Value.pointer (at0 k4),
        Value.agg
        #[Value.int IntKind.i64 1, Value.int IntKind.i64 2, Value.int IntKind.i64 0, Value.int IntKind.i64 2,
        Value.string { data := #[97] }, Value.slice none 0 0, Value.int IntKind.i64 0, Value.int IntKind.i64 0,
        Value.slice none 0 0, Value.slice none 0 0]]
        H50 fun v52 H53 =>
        ∃ b54,
        v52 = Value.bool b54 ∧
        (b54 = true →
        Triple Proofs.Tryd.prog 6
        #[Value.pointer (at0 k4),
        Value.agg
        #[Value.int IntKind.i64 2, Value.int IntKind.i64 2, Value.int IntKind.i64 0, Value.int IntKind.i64 2,
        Value.string { data := #[97] }, Value.slice none 0 0, Value.int IntKind.i64 0, Value.int IntKind.i64 0,
        Value.slice none 0 0, Value.slice none 0 0]]
        H53 fun v55 H56 =>
        ∃ b57,
        v55 = Value.bool b57 ∧
        (((↑k31 : Int) == 2) = true →
        (b48 = true →
        (b51 = true →
        (b57 = true →
        Triple Proofs.Tryd.prog 6
        #[Value.pointer (at0 k4),
        Value.agg
        #[Value.int IntKind.i64 3, Value.int IntKind.i64 2, Value.int IntKind.i64 0,
        Value.int IntKind.i64 0, Value.string ({ data := #[] } : ByteArray), Value.slice none 0 0,
        Value.int IntKind.i64 10, Value.int IntKind.i64 0, Value.slice none 0 0,
        Value.slice none 0 0]]
        H56 fun v58 H59 =>
        ∃ b60,
        v58 = Value.bool b60 ∧
        ((!b60) = true →
        Triple Proofs.Tryd.prog 8
        #[Value.pointer (at0 k4), Value.string { data := #[97] }]
        H59 fun v61 H62 =>
        ∃ a63 k64 k65,
        v61 = Value.slice a63 k64 k65 ∧ Q (Value.bool ((↑k64 : Int) == 1)) H62) ∧
        ((!b60) = !true → Q (Value.bool false) H59)) ∧
        (b57 = !true → Q (Value.bool false) H56)) ∧
        (b51 = !true → Q (Value.bool false) H56)) ∧
        (b48 = !true → Q (Value.bool false) H56)) ∧
        (((↑k31 : Int) == 2) = !true → Q (Value.bool false) H56)) ∧
        (b54 = !true →
        Q (Value.bool (bif (↑k31 : Int) == 2 then bif b48 then bif b51 then false else false else false else false)) H53))) :
    Triple Go.Proofs.Tryd.prog 5 ([]).toArray H Q :=
  Triple.of_vc lAlive.cx (by kernel_rfl) h

theorem lFarS.vc (a1 : Option Addr) (k2 : Nat) (k3 : Nat) (H : PHeap) (Q : Value → PHeap → Prop)
    (h : ∃ (R4 : Rl) (M5 : Mu),
  R4 [Value.int IntKind.i64 0] H ∧
    ∀ (n6 : Int) (H7 : PHeap),
      R4 [Value.int IntKind.i64 n6] H7 →
        ((bif decide (n6 < (↑k2 : Int)) then decide (n6 < 100) else false) = true →
        Ob (a1 ≠ none ∧ 0 ≤ n6 ∧ n6 < (↑k2 : Int)) ∧
        ∃ s8,
        Reads H7 (elemA a1 n6 1) [Value.string s8] ∧
        (decide ((↑s8.size : Int) > 40) = true → Q (Value.bool true) H7) ∧
        (decide ((↑s8.size : Int) > 40) = false →
        R4 [Value.int IntKind.i64 (IntKind.i64.wrap (n6 + 1))] H7 ∧ Less (M5 [Value.int IntKind.i64 (IntKind.i64.wrap (n6 + 1))] H7) (M5 [Value.int IntKind.i64 n6] H7))) ∧
        ((bif decide (n6 < (↑k2 : Int)) then decide (n6 < 100) else false) = false → Q (Value.bool (decide ((↑k2 : Int) > 60))) H7)) :
    Triple Go.Proofs.Tryd.prog 9 ([Value.slice a1 k2 k3]).toArray H Q :=
  Triple.of_vc lFarS.cx (by kernel_rfl) h

end Go.Vc
