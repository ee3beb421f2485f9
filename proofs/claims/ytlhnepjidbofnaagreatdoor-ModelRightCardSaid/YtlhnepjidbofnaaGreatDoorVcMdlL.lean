/- What is to be shown of each function, in its normal form. Printed by a program of this session's, checked by the kernel. -/
import Derived.Test.YtlhnepjidbofnaaGreatDoorE2
import Derived.Test.YtlhnepjidbofnaaGreatDoorProg
set_option linter.unusedVariables false
set_option maxRecDepth 100000
namespace Go.Vc
open Go.Vx Go
def lawRight.cx : Cx := ⟨[3], [(7, [26], []), (15, [52], []), (20, [9, 64], []), (32, [104], [])], [], []⟩
def lFar.cx : Cx := ⟨[], [(3, [3, 8], [])], [], []⟩
def lAlive.cx : Cx := ⟨[6], [(8, [34], [])], [], []⟩
def lFarS.cx : Cx := ⟨[], [(2, [3], [])], [], []⟩

theorem lawRight.vc (a1 : Option Addr) (k2 : Nat) (k3 : Nat) (H : PHeap) (Q : Value → PHeap → Prop)
    (h : Triple Proofs.Tryz.prog 4 #[Value.slice a1 k2 k3] H fun v4 H5 =>
  ∃ b6,
    v4 = Value.bool b6 ∧
      (b6 = true → Triple Proofs.Tryz.prog 5 #[] H5 fun v7 H8 => ∃ b9, v7 = Value.bool b9 ∧ Q (Value.bool b9) H8) ∧
        (b6 = false →
        Triple Proofs.Tryz.prog 6 #[Value.slice a1 k2 k3] H5 fun v10 H11 =>
        ∃ b12,
        v10 = Value.bool b12 ∧
        Triple Proofs.Tryz.prog 7 #[Value.slice a1 k2 k3] H11 fun v13 H14 =>
        ∃ b15,
        v13 = Value.bool b15 ∧
        ((!b12 == b15) = true → Q (Value.bool false) H14) ∧
        ((!b12 == b15) = false →
        ∀ (k16 : Nat),
        H14 k16 = none →
        ∃ (R17 : Rl) (M18 : Mu),
        R17 [Value.int IntKind.i64 0] (H14.upd k16 (Obj.cells #[Value.slice none 0 0, Value.map none] 28)) ∧
        ∀ (n19 : Int) (H20 : PHeap),
        R17 [Value.int IntKind.i64 n19] H20 →
        (decide (n19 < (↑k2 : Int)) = true →
        Ob (a1 ≠ none ∧ 0 ≤ n19 ∧ n19 < (↑k2 : Int)) ∧
        ∃ n21 n22 n23 n24 s25 a26 k27 k28 n29 n30 a31 k32 k33 a34 k35 k36,
        Reads H20 (elemA a1 n19 10)
        [Value.int IntKind.i64 n21, Value.int IntKind.i64 n22, Value.int IntKind.i64 n23, Value.int IntKind.i64 n24, Value.string s25,
        Value.slice a26 k27 k28, Value.int IntKind.i64 n29, Value.int IntKind.i64 n30, Value.slice a31 k32 k33, Value.slice a34 k35 k36] ∧
        ∃ H37,
        Vx.Sub H37 H20 ∧
        Ob ((0 : Int) ≤ 0 ∧ 0 ≤ IntKind.i64.wrap (n19 + 1) ∧ IntKind.i64.wrap (n19 + 1) ≤ (↑k3 : Int)) ∧
        Triple Proofs.Tryz.prog 8
        #[Value.pointer (at0 k16),
        Value.agg
        #[Value.int IntKind.i64 n21, Value.int IntKind.i64 n22, Value.int IntKind.i64 n23, Value.int IntKind.i64 n24, Value.string s25,
        Value.slice a26 k27 k28, Value.int IntKind.i64 n29, Value.int IntKind.i64 n30, Value.slice a31 k32 k33, Value.slice a34 k35 k36]]
        H20 fun v38 H39 =>
        ∃ b40,
        v38 = Value.bool b40 ∧
        Triple Proofs.Tryz.prog 7 #[Value.slice (slA a1 0 k3 10) ((IntKind.i64.wrap (n19 + 1)).toNat - Int.toNat 0) (k3 - Int.toNat 0)] H39
        fun v41 H42 =>
        ∃ b43,
        v41 = Value.bool b43 ∧
        ((!b40 == b43) = true → Q (Value.bool false) H42) ∧
        ((!b40 == b43) = false →
        Ob ((0 : Int) ≤ 0 ∧ 0 ≤ IntKind.i64.wrap (n19 + 1) ∧ IntKind.i64.wrap (n19 + 1) ≤ (↑k3 : Int)) ∧
        Triple Proofs.Tryz.prog 7 #[Value.slice (slA a1 0 k3 10) ((IntKind.i64.wrap (n19 + 1)).toNat - Int.toNat 0) (k3 - Int.toNat 0)]
        H42 fun v44 H45 =>
        ∃ b46,
        v44 = Value.bool b46 ∧
        ((!b46) = true → Triple Proofs.Tryz.prog 5 #[] H45 fun v47 H48 => ∃ b49, v47 = Value.bool b49 ∧ Q (Value.bool b49) H48) ∧
        ((!b46) = false →
        R17 [Value.int IntKind.i64 (IntKind.i64.wrap (n19 + 1))] H45 ∧
        Less (M18 [Value.int IntKind.i64 (IntKind.i64.wrap (n19 + 1))] H45) (M18 [Value.int IntKind.i64 n19] H20)))) ∧
        (decide (n19 < (↑k2 : Int)) = false →
        Triple Proofs.Tryz.prog 9 #[Value.slice a1 k2 k3] H20 fun v50 H51 =>
        ∃ a52 k53 k54,
        v50 = Value.slice a52 k53 k54 ∧
        ∀ (k55 : Nat),
        H51 k55 = none →
        EvV Proofs.Tryz.prog (Builtin.append_ #[33, 33] 33 #[Value.slice a52 k53 k54, Value.slice (at0 k55) 1 1])
        (H51.upd k55 (Obj.cells #[Value.string { data := #[110, 111, 98, 111, 100, 121] }] 9)) fun v56 H57 =>
        ∃ a58 k59 k60,
        v56 = Value.slice a58 k59 k60 ∧
        ∃ (R61 : Rl) (M62 : Mu),
        R61 [Value.int IntKind.i64 0] H57 ∧
        ∀ (n63 : Int) (H64 : PHeap),
        R61 [Value.int IntKind.i64 n63] H64 →
        (decide (n63 < (↑k59 : Int)) = true →
        Ob (a58 ≠ none ∧ 0 ≤ n63 ∧ n63 < (↑k59 : Int)) ∧
        ∃ s65,
        Reads H64 (elemA a58 n63 1) [Value.string s65] ∧
        Triple Proofs.Tryz.prog 10 #[Value.slice a1 k2 k3, Value.string s65] H64 fun v66 H67 =>
        ∃ a68,
        v66 = Value.pointer a68 ∧
        Ob (a68 ≠ none) ∧
        Ob (a68 ≠ none) ∧
        ∃ a69 k70 k71,
        Reads H67 (fldA a68 2) [Value.slice a69 k70 k71] ∧
        ∃ (R72 : Rl) (M73 : Mu),
        R72 [Value.slice none 0 0, Value.int IntKind.i64 0] H67 ∧
        ∀ (a74 : Option Addr) (k75 k76 : Nat) (n77 : Int) (H78 : PHeap),
        R72 [Value.slice a74 k75 k76, Value.int IntKind.i64 n77] H78 →
        (decide (n77 < (↑k70 : Int)) = true →
        Ob (a69 ≠ none ∧ 0 ≤ n77 ∧ n77 < (↑k70 : Int)) ∧
        ∃ s79,
        Reads H78 (elemA a69 n77 1) [Value.string s79] ∧
        Triple Proofs.Tryz.prog 11 #[Value.slice a74 k75 k76, Value.string s79] H78 fun v80 H81 =>
        ∃ a82 k83 k84,
        v80 = Value.slice a82 k83 k84 ∧
        R72 [Value.slice a82 k83 k84, Value.int IntKind.i64 (IntKind.i64.wrap (n77 + 1))]
        H81 ∧
        Less
        (M73 [Value.slice a82 k83 k84, Value.int IntKind.i64 (IntKind.i64.wrap (n77 + 1))]
        H81)
        (M73 [Value.slice a74 k75 k76, Value.int IntKind.i64 n77] H78)) ∧
        (decide (n77 < (↑k70 : Int)) = false →
        Triple Proofs.Tryz.prog 12 #[Value.pointer (at0 k16), Value.string s65]
        H78 fun v85 H86 =>
        ∃ a87 k88 k89,
        v85 = Value.slice a87 k88 k89 ∧
        Ob (a68 ≠ none) ∧
        Ob (a68 ≠ none) ∧
        ∃ b90,
        Reads H86 (fldA a68 1) [Value.bool b90] ∧
        (b90 = true →
        (((↑k88 : Int) == 0) = false →
        Ob (a87 ≠ none ∧ (0 : Int) ≤ 0 ∧ 0 < (↑k88 : Int)) ∧
        Ob (elemA a87 0 2 ≠ none) ∧
        ∃ b91,
        Reads H86 (fldA (elemA a87 0 2) 0) [Value.bool b91] ∧
        (b91 = false →
        Ob (a87 ≠ none ∧ (0 : Int) ≤ 0 ∧ 0 < (↑k88 : Int)) ∧
        Ob (elemA a87 0 2 ≠ none) ∧
        ∃ a92 k93 k94,
        Reads H86 (fldA (elemA a87 0 2) 1)
        [Value.slice a92 k93 k94] ∧
        (((↑k93 : Int) != 0) = true →
        Q (Value.bool false) H86) ∧
        (((↑k93 : Int) != 0) = false →
        Ob
        ((0 : Int) ≤ 1 ∧
        1 ≤ (↑k88 : Int) ∧
        (↑k88 : Int) ≤ (↑k89 : Int)) ∧
        (((↑((↑k88 : Int).toNat - Int.toNat 1) : Int) !=
        (↑k75 : Int)) =
        true →
        Q (Value.bool false) H86) ∧
        (((↑((↑k88 : Int).toNat - Int.toNat 1) : Int) !=
        (↑k75 : Int)) =
        false →
        ∃ (R95 : Rl) (M96 : Mu),
        R95 [Value.int IntKind.i64 0] H86 ∧
        ∀ (n97 : Int) (H98 : PHeap),
        R95 [Value.int IntKind.i64 n97] H98 →
        (decide
        (n97 <
        (↑((↑k88 : Int).toNat -
        Int.toNat 1) :
        Int)) =
        true →
        Ob
        (slA a87 1 k89 2 ≠ none ∧
        0 ≤ n97 ∧
        n97 <
        (↑((↑k88 : Int).toNat -
        Int.toNat 1) :
        Int)) ∧
        ∃ b99 a100 k101 k102,
        Reads H98
        (elemA (slA a87 1 k89 2)
        n97 2)
        [Value.bool b99,
        Value.slice a100 k101
        k102] ∧
        ∃ H103,
        Vx.Sub H103 H98 ∧
        ((!b99) = false →
        Ob
        (a74 ≠ none ∧
        0 ≤ n97 ∧
        n97 <
        (↑k75 :
        Int)) ∧
        ∃ s104,
        Reads H103
        (elemA a74
        n97 1)
        [Value.string
        s104] ∧
        EvV
        Proofs.Tryz.prog
        (convert 29
        9
        (Value.slice
        a100
        k101
        k102))
        H98
        fun v105
        H106 =>
        ∃ s107,
        v105 =
        Value.string
        s107 ∧
        Vx.Sub
        H103
        H106 ∧
        ((!eqS
        s107
        s104) =
        true →
        Q
        (Value.bool
        false)
        H106) ∧
        ((!eqS
        s107
        s104) =
        false →
        R95
        [Value.int
        IntKind.i64
        (IntKind.i64.wrap
        (n97 +
        1))]
        H106 ∧
        Less
        (M96
        [Value.int
        IntKind.i64
        (IntKind.i64.wrap
        (n97 +
        1))]
        H106)
        (M96
        [Value.int
        IntKind.i64
        n97]
        H98))) ∧
        ((!b99) = !false →
        Q (Value.bool false)
        H98)) ∧
        (decide
        (n97 <
        (↑((↑k88 : Int).toNat -
        Int.toNat 1) :
        Int)) =
        false →
        R61
        [Value.int IntKind.i64
        (IntKind.i64.wrap
        (n63 + 1))]
        H98 ∧
        Less
        (M62
        [Value.int IntKind.i64
        (IntKind.i64.wrap
        (n63 + 1))]
        H98)
        (M62
        [Value.int IntKind.i64 n63]
        H64))))) ∧
        (b91 = !false → Q (Value.bool false) H86)) ∧
        (((↑k88 : Int) == 0) = !false → Q (Value.bool false) H86)) ∧
        (b90 = false →
        (((↑k88 : Int) != (↑k75 : Int)) = true → Q (Value.bool false) H86) ∧
        (((↑k88 : Int) != (↑k75 : Int)) = false →
        ∃ (R108 : Rl) (M109 : Mu),
        R108 [Value.int IntKind.i64 0] H86 ∧
        ∀ (n110 : Int) (H111 : PHeap),
        R108 [Value.int IntKind.i64 n110] H111 →
        (decide (n110 < (↑k88 : Int)) = true →
        Ob (a87 ≠ none ∧ 0 ≤ n110 ∧ n110 < (↑k88 : Int)) ∧
        ∃ b112 a113 k114 k115,
        Reads H111 (elemA a87 n110 2)
        [Value.bool b112, Value.slice a113 k114 k115] ∧
        ∃ H116,
        Vx.Sub H116 H111 ∧
        ((!b112) = false →
        Ob (a74 ≠ none ∧ 0 ≤ n110 ∧ n110 < (↑k75 : Int)) ∧
        ∃ s117,
        Reads H116 (elemA a74 n110 1)
        [Value.string s117] ∧
        EvV Proofs.Tryz.prog
        (convert 29 9
        (Value.slice a113 k114 k115))
        H111 fun v118 H119 =>
        ∃ s120,
        v118 = Value.string s120 ∧
        Vx.Sub H116 H119 ∧
        ((!eqS s120 s117) = true →
        Q (Value.bool false) H119) ∧
        ((!eqS s120 s117) = false →
        R108
        [Value.int IntKind.i64
        (IntKind.i64.wrap
        (n110 + 1))]
        H119 ∧
        Less
        (M109
        [Value.int IntKind.i64
        (IntKind.i64.wrap
        (n110 + 1))]
        H119)
        (M109
        [Value.int IntKind.i64
        n110]
        H111))) ∧
        ((!b112) = !false → Q (Value.bool false) H111)) ∧
        (decide (n110 < (↑k88 : Int)) = false →
        R61 [Value.int IntKind.i64 (IntKind.i64.wrap (n63 + 1))] H111 ∧
        Less
        (M62 [Value.int IntKind.i64 (IntKind.i64.wrap (n63 + 1))]
        H111)
        (M62 [Value.int IntKind.i64 n63] H64)))))) ∧
        (decide (n63 < (↑k59 : Int)) = false →
        Triple Proofs.Tryz.prog 8
        #[Value.pointer none,
        Value.agg
        #[Value.int IntKind.i64 1, Value.int IntKind.i64 0, Value.int IntKind.i64 0, Value.int IntKind.i64 0,
        Value.string ({ data := #[] } : ByteArray), Value.slice none 0 0, Value.int IntKind.i64 0, Value.int IntKind.i64 0,
        Value.slice none 0 0, Value.slice none 0 0]]
        H64 fun v121 H122 =>
        ∃ b123,
        v121 = Value.bool b123 ∧
        ((!b123) = true →
        Triple Proofs.Tryz.prog 12 #[Value.pointer none, Value.string { data := #[97] }] H122 fun v124 H125 =>
        ∃ a126 k127 k128,
        v124 = Value.slice a126 k127 k128 ∧
        (((↑k127 : Int) == 0) = true →
        Triple Proofs.Tryz.prog 5 #[] H125 fun v129 H130 =>
        ∃ b131, v129 = Value.bool b131 ∧ Q (Value.bool b131) H130) ∧
        (((↑k127 : Int) == 0) = !true → Q (Value.bool false) H125)) ∧
        ((!b123) = !true → Q (Value.bool false) H122)))))) :
    Triple Go.Proofs.Tryz.prog 3 ([Value.slice a1 k2 k3]).toArray H Q :=
  Triple.of_vc lawRight.cx (by kernel_rfl) h

theorem lFar.vc (a1 : Option Addr) (k2 : Nat) (k3 : Nat) (H : PHeap) (Q : Value → PHeap → Prop)
    (h : ∃ (R4 : Rl) (M5 : Mu),
  R4 [Value.int IntKind.i64 0, Value.int IntKind.i64 0] H ∧
    ∀ (n6 n7 : Int) (H8 : PHeap),
      R4 [Value.int IntKind.i64 n6, Value.int IntKind.i64 n7] H8 →
        (decide (n7 < (↑k2 : Int)) = true →
        Ob (a1 ≠ none ∧ 0 ≤ n7 ∧ n7 < (↑k2 : Int)) ∧
        ∃ n9 n10 n11 n12 s13 a14 k15 k16 n17 n18 a19 k20 k21 a22 k23 k24,
        Reads H8 (elemA a1 n7 10)
        [Value.int IntKind.i64 n9, Value.int IntKind.i64 n10, Value.int IntKind.i64 n11, Value.int IntKind.i64 n12, Value.string s13, Value.slice a14 k15 k16, Value.int IntKind.i64 n17,
        Value.int IntKind.i64 n18, Value.slice a19 k20 k21, Value.slice a22 k23 k24] ∧
        (decide ((↑s13.size : Int) > 40) = false →
        (decide ((↑k15 : Int) > 300) = false →
        (decide ((↑k20 : Int) > 300) = false →
        Triple Proofs.Tryz.prog 13 #[Value.slice a22 k23 k24] H8 fun v25 H26 =>
        ∃ b27,
        v25 = Value.bool b27 ∧
        (b27 = true → Q (Value.bool true) H26) ∧
        (b27 = false →
        R4 [Value.int IntKind.i64 (bif bif n9 == 4 then true else n17 == 13 then IntKind.i64.wrap (n6 + 1) else n6), Value.int IntKind.i64 (IntKind.i64.wrap (n7 + 1))]
        H26 ∧
        Less
        (M5
        [Value.int IntKind.i64 (bif bif n9 == 4 then true else n17 == 13 then IntKind.i64.wrap (n6 + 1) else n6),
        Value.int IntKind.i64 (IntKind.i64.wrap (n7 + 1))]
        H26)
        (M5 [Value.int IntKind.i64 n6, Value.int IntKind.i64 n7] H8))) ∧
        (decide ((↑k20 : Int) > 300) = !false → Q (Value.bool true) H8)) ∧
        (decide ((↑k15 : Int) > 300) = !false → Q (Value.bool true) H8)) ∧
        (decide ((↑s13.size : Int) > 40) = !false → Q (Value.bool true) H8)) ∧
        (decide (n7 < (↑k2 : Int)) = false → Q (Value.bool (bif decide (n6 > 4) then true else decide ((↑k2 : Int) > 40))) H8)) :
    Triple Go.Proofs.Tryz.prog 4 ([Value.slice a1 k2 k3]).toArray H Q :=
  Triple.of_vc lFar.cx (by kernel_rfl) h

theorem lAlive.vc (H : PHeap) (Q : Value → PHeap → Prop)
    (h : ∀ (k1 : Nat),
  H k1 = none →
    ∀ (k2 : Nat),
      H.upd k1 (Obj.cells #[Value.int IntKind.u8 7] 5) k2 = none →
        ∀ (k3 : Nat),
        (H.upd k1 (Obj.cells #[Value.int IntKind.u8 7] 5)).upd k2
        (Obj.cells
        #[Value.int IntKind.i64 1, Value.int IntKind.i64 0, Value.int IntKind.i64 0, Value.int IntKind.i64 1, Value.string { data := #[97] },
        Value.slice (at0 k1) 1 1, Value.int IntKind.i64 0, Value.int IntKind.i64 0, Value.slice none 0 0, Value.slice none 0 0, Value.int IntKind.i64 2,
        Value.int IntKind.i64 0, Value.int IntKind.i64 0, Value.int IntKind.i64 1, Value.string { data := #[97] }, Value.slice (at0 k1) 1 1,
        Value.int IntKind.i64 0, Value.int IntKind.i64 0, Value.slice none 0 0, Value.slice none 0 0, Value.int IntKind.i64 3, Value.int IntKind.i64 0, Value.int IntKind.i64 0,
        Value.int IntKind.i64 0, Value.string ({ data := #[] } : ByteArray), Value.slice none 0 0, Value.int IntKind.i64 13, Value.int IntKind.i64 0, Value.slice none 0 0, Value.slice none 0 0,
        Value.int IntKind.i64 1, Value.int IntKind.i64 1, Value.int IntKind.i64 0, Value.int IntKind.i64 2, Value.string { data := #[97] }, Value.slice none 0 0, Value.int IntKind.i64 0,
        Value.int IntKind.i64 0, Value.slice none 0 0, Value.slice none 0 0, Value.int IntKind.i64 2, Value.int IntKind.i64 1, Value.int IntKind.i64 0, Value.int IntKind.i64 2,
        Value.string { data := #[97] }, Value.slice none 0 0, Value.int IntKind.i64 0, Value.int IntKind.i64 0, Value.slice none 0 0, Value.slice none 0 0]
        37)
        k3 =
        none →
        ∀ (k4 : Nat),
        ((H.upd k1 (Obj.cells #[Value.int IntKind.u8 7] 5)).upd k2
        (Obj.cells
        #[Value.int IntKind.i64 1, Value.int IntKind.i64 0, Value.int IntKind.i64 0, Value.int IntKind.i64 1, Value.string { data := #[97] },
        Value.slice (at0 k1) 1 1, Value.int IntKind.i64 0, Value.int IntKind.i64 0, Value.slice none 0 0, Value.slice none 0 0, Value.int IntKind.i64 2,
        Value.int IntKind.i64 0, Value.int IntKind.i64 0, Value.int IntKind.i64 1, Value.string { data := #[97] }, Value.slice (at0 k1) 1 1,
        Value.int IntKind.i64 0, Value.int IntKind.i64 0, Value.slice none 0 0, Value.slice none 0 0, Value.int IntKind.i64 3, Value.int IntKind.i64 0, Value.int IntKind.i64 0,
        Value.int IntKind.i64 0, Value.string ({ data := #[] } : ByteArray), Value.slice none 0 0, Value.int IntKind.i64 13, Value.int IntKind.i64 0, Value.slice none 0 0, Value.slice none 0 0,
        Value.int IntKind.i64 1, Value.int IntKind.i64 1, Value.int IntKind.i64 0, Value.int IntKind.i64 2, Value.string { data := #[97] }, Value.slice none 0 0,
        Value.int IntKind.i64 0, Value.int IntKind.i64 0, Value.slice none 0 0, Value.slice none 0 0, Value.int IntKind.i64 2, Value.int IntKind.i64 1, Value.int IntKind.i64 0,
        Value.int IntKind.i64 2, Value.string { data := #[97] }, Value.slice none 0 0, Value.int IntKind.i64 0, Value.int IntKind.i64 0, Value.slice none 0 0, Value.slice none 0 0]
        37)).upd
        k3 (Obj.cells #[Value.int IntKind.u8 7] 5) k4 =
        none →
        ∃ (R5 : Rl) (M6 : Mu),
        R5 [Value.int IntKind.i64 0]
        ((((H.upd k1 (Obj.cells #[Value.int IntKind.u8 7] 5)).upd k2
        (Obj.cells
        #[Value.int IntKind.i64 1, Value.int IntKind.i64 0, Value.int IntKind.i64 0, Value.int IntKind.i64 1, Value.string { data := #[97] },
        Value.slice (at0 k1) 1 1, Value.int IntKind.i64 0, Value.int IntKind.i64 0, Value.slice none 0 0, Value.slice none 0 0,
        Value.int IntKind.i64 2, Value.int IntKind.i64 0, Value.int IntKind.i64 0, Value.int IntKind.i64 1, Value.string { data := #[97] },
        Value.slice (at0 k1) 1 1, Value.int IntKind.i64 0, Value.int IntKind.i64 0, Value.slice none 0 0, Value.slice none 0 0,
        Value.int IntKind.i64 3, Value.int IntKind.i64 0, Value.int IntKind.i64 0, Value.int IntKind.i64 0, Value.string ({ data := #[] } : ByteArray), Value.slice none 0 0,
        Value.int IntKind.i64 13, Value.int IntKind.i64 0, Value.slice none 0 0, Value.slice none 0 0, Value.int IntKind.i64 1, Value.int IntKind.i64 1,
        Value.int IntKind.i64 0, Value.int IntKind.i64 2, Value.string { data := #[97] }, Value.slice none 0 0, Value.int IntKind.i64 0, Value.int IntKind.i64 0,
        Value.slice none 0 0, Value.slice none 0 0, Value.int IntKind.i64 2, Value.int IntKind.i64 1, Value.int IntKind.i64 0, Value.int IntKind.i64 2,
        Value.string { data := #[97] }, Value.slice none 0 0, Value.int IntKind.i64 0, Value.int IntKind.i64 0, Value.slice none 0 0, Value.slice none 0 0]
        37)).upd
        k3 (Obj.cells #[Value.int IntKind.u8 7] 5)).upd
        k4 (Obj.cells #[Value.slice none 0 0, Value.map none] 28)) ∧
        ∀ (n7 : Int) (H8 : PHeap),
        R5 [Value.int IntKind.i64 n7] H8 →
        (decide (n7 < (↑5 : Int)) = true →
        Ob (at0 k2 ≠ none ∧ 0 ≤ n7 ∧ n7 < (↑5 : Int)) ∧
        ∃ n9 n10 n11 n12 s13 a14 k15 k16 n17 n18 a19 k20 k21 a22 k23 k24,
        Reads H8 (elemA (at0 k2) n7 10)
        [Value.int IntKind.i64 n9, Value.int IntKind.i64 n10, Value.int IntKind.i64 n11, Value.int IntKind.i64 n12, Value.string s13, Value.slice a14 k15 k16,
        Value.int IntKind.i64 n17, Value.int IntKind.i64 n18, Value.slice a19 k20 k21, Value.slice a22 k23 k24] ∧
        Triple Proofs.Tryz.prog 8
        #[Value.pointer (at0 k4),
        Value.agg
        #[Value.int IntKind.i64 n9, Value.int IntKind.i64 n10, Value.int IntKind.i64 n11, Value.int IntKind.i64 n12, Value.string s13, Value.slice a14 k15 k16,
        Value.int IntKind.i64 n17, Value.int IntKind.i64 n18, Value.slice a19 k20 k21, Value.slice a22 k23 k24]]
        H8 fun v25 H26 =>
        ∃ b27,
        v25 = Value.bool b27 ∧
        ((!b27) = true → Q (Value.bool false) H26) ∧
        ((!b27) = false →
        R5 [Value.int IntKind.i64 (IntKind.i64.wrap (n7 + 1))] H26 ∧
        Less (M6 [Value.int IntKind.i64 (IntKind.i64.wrap (n7 + 1))] H26) (M6 [Value.int IntKind.i64 n7] H8))) ∧
        (decide (n7 < (↑5 : Int)) = false →
        Triple Proofs.Tryz.prog 12 #[Value.pointer (at0 k4), Value.string { data := #[97] }] H8 fun v28 H29 =>
        ∃ a30 k31 k32,
        v28 = Value.slice a30 k31 k32 ∧
        ∃ H33,
        Vx.Sub H33 H29 ∧
        ∀ (k34 : Nat),
        H29 k34 = none →
        Vx.Sub H33 (H29.upd k34 (Obj.cells #[] 37)) ∧
        EvV Proofs.Tryz.prog (Builtin.append_ #[22, 22] 22 #[Value.slice (at0 k34) 0 0, Value.slice (at0 k2) 5 5])
        (H29.upd k34 (Obj.cells #[] 37)) fun v35 H36 =>
        ∃ a37 k38 k39,
        v35 = Value.slice a37 k38 k39 ∧
        Vx.Sub H33 H36 ∧
        ∀ (k40 : Nat),
        H36 k40 = none →
        EvV Proofs.Tryz.prog (Builtin.append_ #[22, 22] 22 #[Value.slice a37 k38 k39, Value.slice (at0 k40) 1 1])
        (H36.upd k40
        (Obj.cells
        #[Value.int IntKind.i64 3, Value.int IntKind.i64 1, Value.int IntKind.i64 0, Value.int IntKind.i64 0, Value.string ({ data := #[] } : ByteArray),
        Value.slice none 0 0, Value.int IntKind.i64 10, Value.int IntKind.i64 0, Value.slice none 0 0, Value.slice none 0 0]
        37))
        fun v41 H42 =>
        ∃ a43 k44 k45,
        v41 = Value.slice a43 k44 k45 ∧
        Triple Proofs.Tryz.prog 6 #[Value.slice a43 k44 k45] H42 fun v46 H47 =>
        ∃ b48,
        v46 = Value.bool b48 ∧
        Triple Proofs.Tryz.prog 8
        #[Value.pointer (at0 k4),
        Value.agg
        #[Value.int IntKind.i64 3, Value.int IntKind.i64 1, Value.int IntKind.i64 0, Value.int IntKind.i64 0,
        Value.string ({ data := #[] } : ByteArray), Value.slice none 0 0, Value.int IntKind.i64 0, Value.int IntKind.i64 0,
        Value.slice (at0 k3) 1 1, Value.slice none 0 0]]
        H47 fun v49 H50 =>
        ∃ b51,
        v49 = Value.bool b51 ∧
        Triple Proofs.Tryz.prog 8
        #[Value.pointer (at0 k4),
        Value.agg
        #[Value.int IntKind.i64 1, Value.int IntKind.i64 2, Value.int IntKind.i64 0, Value.int IntKind.i64 2,
        Value.string { data := #[97] }, Value.slice none 0 0, Value.int IntKind.i64 0, Value.int IntKind.i64 0,
        Value.slice none 0 0, Value.slice none 0 0]]
        H50 fun v52 H53 =>
        ∃ b54,
        v52 = Value.bool b54 ∧
        (b54 = true →
        Triple Proofs.Tryz.prog 8
        #[Value.pointer (at0 k4),
        Value.agg
        #[Value.int IntKind.i64 2, Value.int IntKind.i64 2, Value.int IntKind.i64 0, Value.int IntKind.i64 2,
        Value.string { data := #[97] }, Value.slice none 0 0, Value.int IntKind.i64 0, Value.int IntKind.i64 0,
        Value.slice none 0 0, Value.slice none 0 0]]
        H53 fun v55 H56 =>
        ∃ b57,
        v55 = Value.bool b57 ∧
        (((↑k31 : Int) == 2) = true →
        (b48 = true →
        (b51 = true →
        (b57 = true →
        Triple Proofs.Tryz.prog 8
        #[Value.pointer (at0 k4),
        Value.agg
        #[Value.int IntKind.i64 3, Value.int IntKind.i64 2, Value.int IntKind.i64 0,
        Value.int IntKind.i64 0, Value.string ({ data := #[] } : ByteArray), Value.slice none 0 0,
        Value.int IntKind.i64 10, Value.int IntKind.i64 0, Value.slice none 0 0,
        Value.slice none 0 0]]
        H56 fun v58 H59 =>
        ∃ b60,
        v58 = Value.bool b60 ∧
        ((!b60) = true →
        Triple Proofs.Tryz.prog 12
        #[Value.pointer (at0 k4), Value.string { data := #[97] }]
        H59 fun v61 H62 =>
        ∃ a63 k64 k65,
        v61 = Value.slice a63 k64 k65 ∧ Q (Value.bool ((↑k64 : Int) == 1)) H62) ∧
        ((!b60) = !true → Q (Value.bool false) H59)) ∧
        (b57 = !true → Q (Value.bool false) H56)) ∧
        (b51 = !true → Q (Value.bool false) H56)) ∧
        (b48 = !true → Q (Value.bool false) H56)) ∧
        (((↑k31 : Int) == 2) = !true → Q (Value.bool false) H56)) ∧
        (b54 = !true →
        Q (Value.bool (bif (↑k31 : Int) == 2 then bif b48 then bif b51 then false else false else false else false)) H53))) :
    Triple Go.Proofs.Tryz.prog 5 ([]).toArray H Q :=
  Triple.of_vc lAlive.cx (by kernel_rfl) h

theorem lFarS.vc (a1 : Option Addr) (k2 : Nat) (k3 : Nat) (H : PHeap) (Q : Value → PHeap → Prop)
    (h : ∃ (R4 : Rl) (M5 : Mu),
  R4 [Value.int IntKind.i64 0] H ∧
    ∀ (n6 : Int) (H7 : PHeap),
      R4 [Value.int IntKind.i64 n6] H7 →
        ((bif decide (n6 < (↑k2 : Int)) then decide (n6 < 100) else false) = true →
        Ob (a1 ≠ none ∧ 0 ≤ n6 ∧ n6 < (↑k2 : Int)) ∧
        ∃ s8,
        Reads H7 (elemA a1 n6 1) [Value.string s8] ∧
        (decide ((↑s8.size : Int) > 40) = true → Q (Value.bool true) H7) ∧
        (decide ((↑s8.size : Int) > 40) = false →
        R4 [Value.int IntKind.i64 (IntKind.i64.wrap (n6 + 1))] H7 ∧ Less (M5 [Value.int IntKind.i64 (IntKind.i64.wrap (n6 + 1))] H7) (M5 [Value.int IntKind.i64 n6] H7))) ∧
        ((bif decide (n6 < (↑k2 : Int)) then decide (n6 < 100) else false) = false → Q (Value.bool (decide ((↑k2 : Int) > 60))) H7)) :
    Triple Go.Proofs.Tryz.prog 13 ([Value.slice a1 k2 k3]).toArray H Q :=
  Triple.of_vc lFarS.cx (by kernel_rfl) h

end Go.Vc
