/- What is to be shown of each function, in its normal form. Printed by a program of this session's, checked by the kernel. -/
import Derived.Test.YtcdgeeakfoofpabVxN
import Derived.Test.YtcdgeeakfoofpabProg
set_option linter.unusedVariables false
set_option maxRecDepth 100000
namespace Go.Vc
open Go.Vx Go
def lawGPlays.cx : Cx := ⟨[3, 17, 39], [(6, [4, 20], [])], [(2, [(4, 28)], [])], []⟩

theorem lawGPlays.vc (a1 : Option Addr) (k2 : Nat) (k3 : Nat) (H : PHeap) (Q : Value → PHeap → Prop)
    (h : (decide ((↑k2 : Int) > 40) = true → Triple Proofs.Try.prog 5 #[] H fun v4 H5 => ∃ b6, v4 = Value.bool b6 ∧ Q (Value.bool b6) H5) ∧
  (decide ((↑k2 : Int) > 40) = false →
    ∀ (k7 : Nat),
      H k7 = none →
        ∀ (k8 : Nat),
        H.upd k7 (Obj.cells #[Value.bool false, Value.slice none 0 0, Value.map none] 27) k8 = none →
        ∃ (R9 : Rl) (M10 : Mu),
        R9 [Value.pointer (at0 k8), Value.int IntKind.i64 0]
        ((H.upd k7 (Obj.cells #[Value.bool false, Value.slice none 0 0, Value.map none] 27)).upd k8
        (Obj.cells #[Value.bool false, Value.slice none 0 0, Value.slice none 0 0, Value.slice none 0 0] 31)) ∧
        ∀ (a11 : Option Addr) (n12 : Int) (H13 : PHeap),
        R9 [Value.pointer a11, Value.int IntKind.i64 n12] H13 →
        (decide (n12 < (↑k2 : Int)) = true →
        Ob (a1 ≠ none ∧ 0 ≤ n12 ∧ n12 < (↑k2 : Int)) ∧
        ∃ n14 n15 a16 k17 k18 a19 k20 k21,
        Reads H13 (elemA a1 n12 4) [Value.int IntKind.i64 n14, Value.int IntKind.i64 n15, Value.slice a16 k17 k18, Value.slice a19 k20 k21] ∧
        ((bif decide ((↑k17 : Int) > 40) then true else decide ((↑k20 : Int) > 300)) = true →
        Triple Proofs.Try.prog 5 #[] H13 fun v22 H23 => ∃ b24, v22 = Value.bool b24 ∧ Q (Value.bool b24) H23) ∧
        ((bif decide ((↑k17 : Int) > 40) then true else decide ((↑k20 : Int) > 300)) = false →
        ∃ (R25 : Rl),
        (∀ (a26 : Option Addr) (H27 : PHeap),
        R25 [Value.pointer a26] H27 →
        Triple Proofs.Try.prog 11 #[Value.pointer (at0 k7)] H27 fun v28 H29 =>
        ∃ a30 k31 k32 a33 k34 k35 b36,
        v28 = Value.tuple #[Value.slice a30 k31 k32, Value.slice a33 k34 k35, Value.bool b36] ∧
        Triple Proofs.Try.prog 12 #[Value.pointer a26] H29 fun v37 H38 =>
        ∃ a39 k40 k41 b42,
        v37 = Value.tuple #[Value.slice a39 k40 k41, Value.bool b42] ∧
        ∃ H43,
        Vx.Sub H43 H38 ∧
        ((!b36 == b42) = false →
        Triple Proofs.Try.prog 13 #[Value.slice a33 k34 k35, Value.slice a39 k40 k41] H38 fun v44 H45 =>
        ∃ b46,
        v44 = Value.bool b46 ∧
        Vx.Sub H43 H45 ∧
        ((!b46) = false →
        (b36 = true →
        Ob (a26 ≠ none) ∧
        Ob (a26 ≠ none) ∧
        ∃ a47 k48 k49,
        Reads H43 (fldA a26 1) [Value.slice a47 k48 k49] ∧
        Triple Proofs.Try.prog 14 #[Value.slice a30 k31 k32, Value.slice a47 k48 k49] H45 fun v50 H51 =>
        ∃ b52,
        v50 = Value.bool b52 ∧
        Vx.Sub H43 H51 ∧
        ((!b52) = false →
        ((!b36) = true →
        (((↑k31 : Int) != 0) = false →
        Ob (a26 ≠ none) ∧
        Ob (a26 ≠ none) ∧
        ∃ b53,
        Reads H43 (fldA a26 0) [Value.bool b53] ∧
        Triple Proofs.Try.prog 15 #[Value.pointer (at0 k7)] H51
        fun v54 H55 =>
        ∃ b56,
        v54 = Value.bool b56 ∧
        Vx.Sub H43 H55 ∧
        ((!b56 == b53) = false →
        Triple Proofs.Try.prog 17
        #[Value.pointer (at0 k7)] H55 fun v57 H58 =>
        ∃ a59 k60 k61,
        v57 = Value.slice a59 k60 k61 ∧
        Triple Proofs.Try.prog 18 #[Value.pointer a26] H58 fun v62 H63 =>
        ∃ a64 k65 k66,
        v62 = Value.slice a64 k65 k66 ∧
        Triple Proofs.Try.prog 16
        #[Value.slice a59 k60 k61, Value.slice a64 k65 k66] H63
        fun v67 H68 =>
        ∃ b69,
        v67 = Value.bool b69 ∧
        ((!b69) = true → Q (Value.bool false) H68) ∧
        ((!b69) = false →
        R9
        [Value.pointer a26,
        Value.int IntKind.i64
        (IntKind.i64.wrap (n12 + 1))]
        H68 ∧
        Less
        (M10
        [Value.pointer a26,
        Value.int IntKind.i64
        (IntKind.i64.wrap (n12 + 1))]
        H68)
        (M10
        [Value.pointer a11, Value.int IntKind.i64 n12]
        H13))) ∧
        ((!b56 == b53) = !false → Q (Value.bool false) H55)) ∧
        (((↑k31 : Int) != 0) = !false → Q (Value.bool false) H51)) ∧
        ((!b36) = !true →
        Ob (a26 ≠ none) ∧
        Ob (a26 ≠ none) ∧
        ∃ b70,
        Reads H43 (fldA a26 0) [Value.bool b70] ∧
        Triple Proofs.Try.prog 15 #[Value.pointer (at0 k7)] H51
        fun v71 H72 =>
        ∃ b73,
        v71 = Value.bool b73 ∧
        Vx.Sub H43 H72 ∧
        ((!b73 == b70) = false →
        Triple Proofs.Try.prog 17 #[Value.pointer (at0 k7)]
        H72 fun v74 H75 =>
        ∃ a76 k77 k78,
        v74 = Value.slice a76 k77 k78 ∧
        Triple Proofs.Try.prog 18 #[Value.pointer a26] H75 fun v79 H80 =>
        ∃ a81 k82 k83,
        v79 = Value.slice a81 k82 k83 ∧
        Triple Proofs.Try.prog 16
        #[Value.slice a76 k77 k78, Value.slice a81 k82 k83] H80
        fun v84 H85 =>
        ∃ b86,
        v84 = Value.bool b86 ∧
        ((!b86) = true → Q (Value.bool false) H85) ∧
        ((!b86) = false →
        R9
        [Value.pointer a26,
        Value.int IntKind.i64
        (IntKind.i64.wrap (n12 + 1))]
        H85 ∧
        Less
        (M10
        [Value.pointer a26,
        Value.int IntKind.i64
        (IntKind.i64.wrap (n12 + 1))]
        H85)
        (M10 [Value.pointer a11, Value.int IntKind.i64 n12]
        H13))) ∧
        ((!b73 == b70) = !false → Q (Value.bool false) H72))) ∧
        ((!b52) = !false → Q (Value.bool false) H51)) ∧
        (b36 = !true →
        ((!b36) = true →
        (((↑k31 : Int) != 0) = false →
        Ob (a26 ≠ none) ∧
        Ob (a26 ≠ none) ∧
        ∃ b87,
        Reads H43 (fldA a26 0) [Value.bool b87] ∧
        Triple Proofs.Try.prog 15 #[Value.pointer (at0 k7)] H45 fun v88 H89 =>
        ∃ b90,
        v88 = Value.bool b90 ∧
        Vx.Sub H43 H89 ∧
        ((!b90 == b87) = false →
        Triple Proofs.Try.prog 17 #[Value.pointer (at0 k7)] H89 fun v91 H92 =>
        ∃ a93 k94 k95,
        v91 = Value.slice a93 k94 k95 ∧
        Triple Proofs.Try.prog 18 #[Value.pointer a26] H92 fun v96 H97 =>
        ∃ a98 k99 k100,
        v96 = Value.slice a98 k99 k100 ∧
        Triple Proofs.Try.prog 16 #[Value.slice a93 k94 k95, Value.slice a98 k99 k100] H97
        fun v101 H102 =>
        ∃ b103,
        v101 = Value.bool b103 ∧
        ((!b103) = true → Q (Value.bool false) H102) ∧
        ((!b103) = false →
        R9
        [Value.pointer a26,
        Value.int IntKind.i64 (IntKind.i64.wrap (n12 + 1))]
        H102 ∧
        Less
        (M10
        [Value.pointer a26,
        Value.int IntKind.i64 (IntKind.i64.wrap (n12 + 1))]
        H102)
        (M10 [Value.pointer a11, Value.int IntKind.i64 n12] H13))) ∧
        ((!b90 == b87) = !false → Q (Value.bool false) H89)) ∧
        (((↑k31 : Int) != 0) = !false → Q (Value.bool false) H45)) ∧
        ((!b36) = !true →
        Ob (a26 ≠ none) ∧
        Ob (a26 ≠ none) ∧
        ∃ b104,
        Reads H43 (fldA a26 0) [Value.bool b104] ∧
        Triple Proofs.Try.prog 15 #[Value.pointer (at0 k7)] H45 fun v105 H106 =>
        ∃ b107,
        v105 = Value.bool b107 ∧
        Vx.Sub H43 H106 ∧
        ((!b107 == b104) = false →
        Triple Proofs.Try.prog 17 #[Value.pointer (at0 k7)] H106 fun v108 H109 =>
        ∃ a110 k111 k112,
        v108 = Value.slice a110 k111 k112 ∧
        Triple Proofs.Try.prog 18 #[Value.pointer a26] H109 fun v113 H114 =>
        ∃ a115 k116 k117,
        v113 = Value.slice a115 k116 k117 ∧
        Triple Proofs.Try.prog 16 #[Value.slice a110 k111 k112, Value.slice a115 k116 k117]
        H114 fun v118 H119 =>
        ∃ b120,
        v118 = Value.bool b120 ∧
        ((!b120) = true → Q (Value.bool false) H119) ∧
        ((!b120) = false →
        R9 [Value.pointer a26, Value.int IntKind.i64 (IntKind.i64.wrap (n12 + 1))]
        H119 ∧
        Less
        (M10
        [Value.pointer a26,
        Value.int IntKind.i64 (IntKind.i64.wrap (n12 + 1))]
        H119)
        (M10 [Value.pointer a11, Value.int IntKind.i64 n12] H13))) ∧
        ((!b107 == b104) = !false → Q (Value.bool false) H106)))) ∧
        ((!b46) = !false → Q (Value.bool false) H45)) ∧
        ((!b36 == b42) = !false → Q (Value.bool false) H38)) ∧
        ((n14 == 0) = true →
        ∃ H121,
        Vx.Sub H121 H13 ∧
        Triple Proofs.Try.prog 6 #[Value.pointer (at0 k7), Value.int IntKind.i64 n15, Value.slice a19 k20 k21] H13 fun v122 H123 =>
        ∃ b124,
        v122 = Value.bool b124 ∧
        Vx.Sub H121 H123 ∧
        Triple Proofs.Try.prog 7 #[Value.pointer a11, Value.int IntKind.i64 n15, Value.slice a19 k20 k21] H123 fun v125 H126 =>
        ∃ b127,
        v125 = Value.bool b127 ∧ ((!b124 == b127) = true → Q (Value.bool false) H126) ∧ ((!b124 == b127) = false → R25 [Value.pointer a11] H126)) ∧
        ((n14 == 0) = false →
        ((n14 == 1) = true →
        ∃ H128,
        Vx.Sub H128 H13 ∧
        Triple Proofs.Try.prog 8 #[Value.pointer (at0 k7), Value.slice a16 k17 k18] H13 fun v129 H130 =>
        ∃ b131,
        v129 = Value.bool b131 ∧
        Vx.Sub H128 H130 ∧
        Triple Proofs.Try.prog 9 #[Value.pointer a11, Value.slice a16 k17 k18] H130 fun v132 H133 =>
        ∃ b134,
        v132 = Value.bool b134 ∧
        ((!b131 == b134) = true → Q (Value.bool false) H133) ∧ ((!b131 == b134) = false → R25 [Value.pointer a11] H133)) ∧
        ((n14 == 1) = false →
        Triple Proofs.Try.prog 10 #[Value.pointer (at0 k7)] H13 fun v135 H136 =>
        v135 = Value.tuple #[] ∧
        ∀ (k137 : Nat),
        H136 k137 = none →
        R25 [Value.pointer (at0 k137)]
        (H136.upd k137 (Obj.cells #[Value.bool false, Value.slice none 0 0, Value.slice none 0 0, Value.slice none 0 0] 31)))))) ∧
        (decide (n12 < (↑k2 : Int)) = false → Triple Proofs.Try.prog 5 #[] H13 fun v138 H139 => ∃ b140, v138 = Value.bool b140 ∧ Q (Value.bool b140) H139))) :
    Triple Go.Proofs.Try.prog 3 ([Value.slice a1 k2 k3]).toArray H Q :=
  Triple.of_vc lawGPlays.cx (by kernel_rfl) h

end Go.Vc
