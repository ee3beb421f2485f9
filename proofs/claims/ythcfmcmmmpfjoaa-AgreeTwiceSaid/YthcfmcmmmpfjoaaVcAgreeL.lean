/- What is to be shown of each function, in its normal form. Printed by a program of this session's, checked by the kernel. -/
import Derived.Test.YthcfmcmmmpfjoaaE2
import Derived.Test.YthcfmcmmmpfjoaaProg
set_option linter.unusedVariables false
set_option maxRecDepth 100000
namespace Go.Vc
open Go.Vx Go
def lawMarks.cx : Cx := ⟨[], [(6, [7, 47], []), (18, [86], [])], [], []⟩
def lawEnds.cx : Cx := ⟨[], [(6, [11, 60], []), (16, [11], [])], [], []⟩
def lawTwice.cx : Cx := ⟨[], [(6, [70], [8])], [], []⟩
def lawSame.cx : Cx := ⟨[], [], [], []⟩
def lawFar.cx : Cx := ⟨[], [(2, [7], [])], [], []⟩
def lawAlive.cx : Cx := ⟨[], [(3, [14], [])], [], []⟩
def lawMade.cx : Cx := ⟨[5], [], [], []⟩
def l8Some.cx : Cx := ⟨[], [], [], []⟩

theorem lawMarks.vc (n1 : Int) (n2 : Int) (n3 : Int) (n4 : Int) (n5 : Int) (n6 : Int) (a7 : Option Addr) (k8 : Nat) (k9 : Nat) (a10 : Option Addr) (k11 : Nat) (k12 : Nat) (H : PHeap) (Q : Value → PHeap → Prop)
    (h : Triple Proofs.Try.prog 6 #[Value.agg #[Value.int IntKind.i64 n1, Value.int IntKind.i64 n2, Value.int IntKind.i64 n3, Value.int IntKind.i64 n4, Value.int IntKind.i64 n5, Value.int IntKind.i64 n6]] H
  fun v13 H14 =>
  ∃ b15,
    v13 = Value.bool b15 ∧
      ((!b15) = false →
        (decide (n1 > 12) = false →
        (((↑k8 : Int) != n1) = false →
        Triple Proofs.Try.prog 7 #[Value.slice a7 k8 k9] H14 fun v16 H17 =>
        ∃ b18,
        v16 = Value.bool b18 ∧
        ((bif b18 then true else decide ((↑k11 : Int) > 40)) = true → Triple Proofs.Try.prog 8 #[] H17 fun v19 H20 => ∃ b21, v19 = Value.bool b21 ∧ Q (Value.bool b21) H20) ∧
        ((bif b18 then true else decide ((↑k11 : Int) > 40)) = false →
        ∀ (k22 : Nat),
        H17 k22 = none →
        EvV Proofs.Try.prog (Builtin.append_ #[24, 24] 24 #[Value.slice (at0 k22) 0 0, Value.slice a7 k8 k9]) (H17.upd k22 (Obj.cells #[] 32))
        fun v23 H24 =>
        ∃ a25 k26 k27,
        v23 = Value.slice a25 k26 k27 ∧
        ∃ (R28 : Rl) (M29 : Mu),
        R28 [Value.int IntKind.i64 0, Value.int IntKind.i64 0] H24 ∧
        ∀ (n30 n31 : Int) (H32 : PHeap),
        R28 [Value.int IntKind.i64 n30, Value.int IntKind.i64 n31] H32 →
        (decide (n31 < (↑k26 : Int)) = true →
        Ob (a25 ≠ none ∧ 0 ≤ n31 ∧ n31 < (↑k26 : Int)) ∧
        Ob (elemA a25 n31 13 ≠ none) ∧
        ∃ a33 k34 k35,
        Reads H32 (fldA (elemA a25 n31 13) 10) [Value.slice a33 k34 k35] ∧
        Ob (a25 ≠ none ∧ 0 ≤ n31 ∧ n31 < (↑k26 : Int)) ∧
        Ob (elemA a25 n31 13 ≠ none) ∧
        ∃ n36,
        Reads H32 (fldA (elemA a25 n31 13) 7) [Value.int IntKind.i64 n36] ∧
        (decide (n36 > 3) = true →
        Ob (a25 ≠ none ∧ 0 ≤ n31 ∧ n31 < (↑k26 : Int)) ∧
        ∃ H37,
        Writes H32 H37 (elemA a25 n31 13)
        [Value.int IntKind.i64 14, Value.int IntKind.i64 (IntKind.i64.wrap (n31 + 1)), Value.int IntKind.i64 0,
        Value.int IntKind.i64 9, Value.string { data := #[97] }, Value.int IntKind.i64 4, Value.int IntKind.i64 6,
        Value.int IntKind.i64 7, Value.int IntKind.i64 0, Value.int IntKind.i64 2, Value.slice a33 k34 k35,
        Value.slice none 0 0, Value.slice none 0 0] ∧
        R28 [Value.int IntKind.i64 (IntKind.i64.wrap (n30 + 1)), Value.int IntKind.i64 (IntKind.i64.wrap (n31 + 1))] H37 ∧
        Less (M29 [Value.int IntKind.i64 (IntKind.i64.wrap (n30 + 1)), Value.int IntKind.i64 (IntKind.i64.wrap (n31 + 1))] H37)
        (M29 [Value.int IntKind.i64 n30, Value.int IntKind.i64 n31] H32)) ∧
        (decide (n36 > 3) = false →
        Ob (a25 ≠ none ∧ 0 ≤ n31 ∧ n31 < (↑k26 : Int)) ∧
        ∃ H38,
        Writes H32 H38 (elemA a25 n31 13)
        [Value.int IntKind.i64 14, Value.int IntKind.i64 (IntKind.i64.wrap (n31 + 1)), Value.int IntKind.i64 0,
        Value.int IntKind.i64 9, Value.string { data := #[97] }, Value.int IntKind.i64 2, Value.int IntKind.i64 2,
        Value.int IntKind.i64 2, Value.int IntKind.i64 0, Value.int IntKind.i64 2, Value.slice a33 k34 k35,
        Value.slice none 0 0, Value.slice none 0 0] ∧
        R28 [Value.int IntKind.i64 n30, Value.int IntKind.i64 (IntKind.i64.wrap (n31 + 1))] H38 ∧
        Less (M29 [Value.int IntKind.i64 n30, Value.int IntKind.i64 (IntKind.i64.wrap (n31 + 1))] H38)
        (M29 [Value.int IntKind.i64 n30, Value.int IntKind.i64 n31] H32))) ∧
        (decide (n31 < (↑k26 : Int)) = false →
        (decide (n30 < n4) = true → Triple Proofs.Try.prog 8 #[] H32 fun v39 H40 => ∃ b41, v39 = Value.bool b41 ∧ Q (Value.bool b41) H40) ∧
        (decide (n30 < n4) = false →
        Triple Proofs.Try.prog 9
        #[Value.agg
        #[Value.int IntKind.i64 n1, Value.int IntKind.i64 n2, Value.int IntKind.i64 n3, Value.int IntKind.i64 n4, Value.int IntKind.i64 n5,
        Value.int IntKind.i64 n6],
        Value.int IntKind.i64 9, Value.string { data := #[97] }, Value.bool false]
        H32 fun v42 H43 =>
        ∃ a44 a45 k46 k47,
        v42 = Value.tuple #[Value.pointer a44, Value.slice a45 k46 k47] ∧
        ∃ (R48 : Rl) (M49 : Mu),
        R48 [Value.int IntKind.i64 0] H43 ∧
        ∀ (n50 : Int) (H51 : PHeap),
        R48 [Value.int IntKind.i64 n50] H51 →
        (decide (n50 < (↑k11 : Int)) = true →
        Ob (a10 ≠ none ∧ 0 ≤ n50 ∧ n50 < (↑k11 : Int)) ∧
        ∃ n52,
        Reads H51 (elemA a10 n50 1) [Value.int IntKind.u8 n52] ∧
        (decide (n52 ≥ 200) = true →
        Triple Proofs.Try.prog 10 #[Value.pointer a44] H51 fun v53 H54 =>
        ∃ a55 k56 k57,
        v53 = Value.slice a55 k56 k57 ∧
        R48 [Value.int IntKind.i64 (IntKind.i64.wrap (n50 + 1))] H54 ∧
        Less (M49 [Value.int IntKind.i64 (IntKind.i64.wrap (n50 + 1))] H54) (M49 [Value.int IntKind.i64 n50] H51)) ∧
        (decide (n52 ≥ 200) = false →
        Ob (n1 ≠ 0) ∧
        Ob (a25 ≠ none ∧ 0 ≤ (IntKind.i64.wrap n52).tmod n1 ∧ (IntKind.i64.wrap n52).tmod n1 < (↑k26 : Int)) ∧
        ∃ n58 n59 n60 n61 s62 n63 n64 n65 n66 n67 a68 k69 k70 a71 k72 k73 a74 k75 k76,
        Reads H51 (elemA a25 ((IntKind.i64.wrap n52).tmod n1) 13)
        [Value.int IntKind.i64 n58, Value.int IntKind.i64 n59, Value.int IntKind.i64 n60, Value.int IntKind.i64 n61,
        Value.string s62, Value.int IntKind.i64 n63, Value.int IntKind.i64 n64, Value.int IntKind.i64 n65,
        Value.int IntKind.i64 n66, Value.int IntKind.i64 n67, Value.slice a68 k69 k70, Value.slice a71 k72 k73,
        Value.slice a74 k75 k76] ∧
        Triple Proofs.Try.prog 11
        #[Value.pointer a44,
        Value.agg
        #[Value.int IntKind.i64 n58, Value.int IntKind.i64 n59, Value.int IntKind.i64 n60,
        Value.int IntKind.i64 n61, Value.string s62, Value.int IntKind.i64 n63, Value.int IntKind.i64 n64,
        Value.int IntKind.i64 n65, Value.int IntKind.i64 n66, Value.int IntKind.i64 n67,
        Value.slice a68 k69 k70, Value.slice a71 k72 k73, Value.slice a74 k75 k76]]
        H51 fun v77 H78 =>
        ∃ a79 k80 k81,
        v77 = Value.slice a79 k80 k81 ∧
        Triple Proofs.Try.prog 11
        #[Value.pointer a44,
        Value.agg
        #[Value.int IntKind.i64 17, Value.int IntKind.i64 n59, Value.int IntKind.i64 0,
        Value.int IntKind.i64 9, Value.string { data := #[97] }, Value.int IntKind.i64 4,
        Value.int IntKind.i64 6, Value.int IntKind.i64 18, Value.int IntKind.i64 0,
        Value.int IntKind.i64 2, Value.slice none 0 0, Value.slice none 0 0, Value.slice none 0 0]]
        H78 fun v82 H83 =>
        ∃ a84 k85 k86,
        v82 = Value.slice a84 k85 k86 ∧
        R48 [Value.int IntKind.i64 (IntKind.i64.wrap (n50 + 1))] H83 ∧
        Less (M49 [Value.int IntKind.i64 (IntKind.i64.wrap (n50 + 1))] H83)
        (M49 [Value.int IntKind.i64 n50] H51))) ∧
        (decide (n50 < (↑k11 : Int)) = false →
        Triple Proofs.Try.prog 12 #[Value.pointer a44] H51 fun v87 H88 =>
        ∃ b89 b90 b91 n92 n93 n94 a95 k96 k97 a98 k99 k100 a101 k102 k103 b104,
        v87 =
        Value.tuple
        #[Value.agg
        #[Value.bool b89, Value.bool b90, Value.bool b91, Value.int IntKind.i64 n92, Value.int IntKind.i64 n93,
        Value.int IntKind.i64 n94, Value.slice a95 k96 k97, Value.slice a98 k99 k100, Value.slice a101 k102 k103],
        Value.bool b104] ∧
        ((!b104) = false →
        ((!b89) = false →
        ((n92 == 4) = true →
        ((n93 == 6) = true →
        (b91 = true →
        Triple Proofs.Try.prog 8 #[] H88 fun v105 H106 =>
        ∃ b107, v105 = Value.bool b107 ∧ Q (Value.bool b107) H106) ∧
        (b91 = !true → Q (Value.bool false) H88)) ∧
        ((n93 == 6) = !true → Q (Value.bool false) H88)) ∧
        ((n92 == 4) = !true → Q (Value.bool false) H88)) ∧
        ((!b89) = !false →
        Triple Proofs.Try.prog 8 #[] H88 fun v108 H109 => ∃ b110, v108 = Value.bool b110 ∧ Q (Value.bool b110) H109)) ∧
        ((!b104) = !false →
        Triple Proofs.Try.prog 8 #[] H88 fun v111 H112 => ∃ b113, v111 = Value.bool b113 ∧ Q (Value.bool b113) H112)))))) ∧
        (((↑k8 : Int) != n1) = !false → Triple Proofs.Try.prog 8 #[] H14 fun v114 H115 => ∃ b116, v114 = Value.bool b116 ∧ Q (Value.bool b116) H115)) ∧
        (decide (n1 > 12) = !false → Triple Proofs.Try.prog 8 #[] H14 fun v117 H118 => ∃ b119, v117 = Value.bool b119 ∧ Q (Value.bool b119) H118)) ∧
        ((!b15) = !false → Triple Proofs.Try.prog 8 #[] H14 fun v120 H121 => ∃ b122, v120 = Value.bool b122 ∧ Q (Value.bool b122) H121)) :
    Triple Go.Proofs.Try.prog 3 ([Value.agg #[Value.int IntKind.i64 n1, Value.int IntKind.i64 n2, Value.int IntKind.i64 n3, Value.int IntKind.i64 n4, Value.int IntKind.i64 n5, Value.int IntKind.i64 n6], Value.slice a7 k8 k9,
  Value.slice a10 k11 k12]).toArray H Q :=
  Triple.of_vc lawMarks.cx (by kernel_rfl) h

theorem lawEnds.vc (n1 : Int) (n2 : Int) (n3 : Int) (n4 : Int) (n5 : Int) (n6 : Int) (n7 : Int) (s8 : ByteArray) (b9 : Bool) (b10 : Bool) (b11 : Bool) (n12 : Int) (n13 : Int) (n14 : Int) (a15 : Option Addr) (k16 : Nat) (k17 : Nat) (H : PHeap) (Q : Value → PHeap → Prop)
    (h : Triple Proofs.Try.prog 7 #[Value.slice a15 k16 k17] H fun v18 H19 =>
  ∃ b20,
    v18 = Value.bool b20 ∧
      (b20 = false →
        Triple Proofs.Try.prog 6
        #[Value.agg #[Value.int IntKind.i64 n1, Value.int IntKind.i64 n2, Value.int IntKind.i64 n3, Value.int IntKind.i64 n4, Value.int IntKind.i64 n5, Value.int IntKind.i64 n6]] H19
        fun v21 H22 =>
        ∃ b23,
        v21 = Value.bool b23 ∧
        ((bif !b23 then true else bif decide (n1 > 20) then true else bif decide ((↑s8.size : Int) > 40) then true else bif decide (n7 < 0) then true else decide (n7 > 1099511627776)) = true →
        Triple Proofs.Try.prog 8 #[] H22 fun v24 H25 => ∃ b26, v24 = Value.bool b26 ∧ Q (Value.bool b26) H25) ∧
        ((bif !b23 then true else bif decide (n1 > 20) then true else bif decide ((↑s8.size : Int) > 40) then true else bif decide (n7 < 0) then true else decide (n7 > 1099511627776)) =
        false →
        Triple Proofs.Try.prog 13
        #[Value.agg #[Value.int IntKind.i64 n1, Value.int IntKind.i64 n2, Value.int IntKind.i64 n3, Value.int IntKind.i64 n4, Value.int IntKind.i64 n5, Value.int IntKind.i64 n6],
        Value.agg
        #[Value.int IntKind.i64 n7, Value.string s8, Value.bool b9, Value.bool b10, Value.bool b11, Value.int IntKind.i64 n12, Value.int IntKind.i64 n13, Value.int IntKind.i64 n14]]
        H22 fun v27 H28 =>
        ∃ a29 n30 n31 n32 n33 n34 n35 n36 s37 b38 b39 n40 n41 a42 k43 k44 a45 k46 k47 a48 k49 k50 n51 b52 b53 b54 n55 n56 n57 a58 k59 k60 a61 k62 k63 a64 k65 k66 a67 k68 k69 a70 k71 k72,
        v27 =
        Value.tuple
        #[Value.pointer a29,
        Value.agg
        #[Value.int IntKind.i64 n30, Value.int IntKind.i64 n31, Value.int IntKind.i64 n32, Value.int IntKind.i64 n33, Value.int IntKind.i64 n34, Value.int IntKind.i64 n35,
        Value.int IntKind.i64 n36, Value.string s37, Value.bool b38, Value.bool b39, Value.int IntKind.i64 n40, Value.int IntKind.i64 n41, Value.slice a42 k43 k44,
        Value.slice a45 k46 k47, Value.slice a48 k49 k50, Value.int IntKind.i64 n51, Value.bool b52, Value.bool b53, Value.bool b54, Value.int IntKind.i64 n55,
        Value.int IntKind.i64 n56, Value.int IntKind.i64 n57, Value.slice a58 k59 k60, Value.slice a61 k62 k63, Value.slice a64 k65 k66],
        Value.slice a67 k68 k69, Value.slice a70 k71 k72] ∧
        ∃ (R73 : Rl) (M74 : Mu),
        R73 [Value.int IntKind.i64 0, Value.int IntKind.i64 0] H28 ∧
        ∀ (n75 n76 : Int) (H77 : PHeap),
        R73 [Value.int IntKind.i64 n75, Value.int IntKind.i64 n76] H77 →
        (decide (n76 < (↑k16 : Int)) = true →
        Ob (a15 ≠ none ∧ 0 ≤ n76 ∧ n76 < (↑k16 : Int)) ∧
        ∃ n78 n79 n80 n81 s82 n83 n84 n85 n86 n87 a88 k89 k90 a91 k92 k93 a94 k95 k96,
        Reads H77 (elemA a15 n76 13)
        [Value.int IntKind.i64 n78, Value.int IntKind.i64 n79, Value.int IntKind.i64 n80, Value.int IntKind.i64 n81, Value.string s82, Value.int IntKind.i64 n83,
        Value.int IntKind.i64 n84, Value.int IntKind.i64 n85, Value.int IntKind.i64 n86, Value.int IntKind.i64 n87, Value.slice a88 k89 k90,
        Value.slice a91 k92 k93, Value.slice a94 k95 k96] ∧
        ((n78 == 0) = true →
        Triple Proofs.Try.prog 10 #[Value.pointer a29] H77 fun v97 H98 =>
        ∃ a99 k100 k101,
        v97 = Value.slice a99 k100 k101 ∧
        Triple Proofs.Try.prog 12 #[Value.pointer a29] H98 fun v102 H103 =>
        ∃ b104 b105 b106 n107 n108 n109 a110 k111 k112 a113 k114 k115 a116 k117 k118 b119,
        v102 =
        Value.tuple
        #[Value.agg
        #[Value.bool b104, Value.bool b105, Value.bool b106, Value.int IntKind.i64 n107, Value.int IntKind.i64 n108,
        Value.int IntKind.i64 n109, Value.slice a110 k111 k112, Value.slice a113 k114 k115, Value.slice a116 k117 k118],
        Value.bool b119] ∧
        ((bif decide (IntKind.i64.wrap (n75 + 1) ≥ IntKind.i64.wrap (2 * IntKind.i64.wrap (n6 + 1))) then !b119 else false) = true →
        Q (Value.bool false) H103) ∧
        ((bif decide (IntKind.i64.wrap (n75 + 1) ≥ IntKind.i64.wrap (2 * IntKind.i64.wrap (n6 + 1))) then !b119 else false) = false →
        R73 [Value.int IntKind.i64 (IntKind.i64.wrap (n75 + 1)), Value.int IntKind.i64 (IntKind.i64.wrap (n76 + 1))] H103 ∧
        Less (M74 [Value.int IntKind.i64 (IntKind.i64.wrap (n75 + 1)), Value.int IntKind.i64 (IntKind.i64.wrap (n76 + 1))] H103)
        (M74 [Value.int IntKind.i64 n75, Value.int IntKind.i64 n76] H77))) ∧
        ((n78 == 0) = false →
        Triple Proofs.Try.prog 11
        #[Value.pointer a29,
        Value.agg
        #[Value.int IntKind.i64 n78, Value.int IntKind.i64 n79, Value.int IntKind.i64 n80, Value.int IntKind.i64 n81, Value.string s82,
        Value.int IntKind.i64 n83, Value.int IntKind.i64 n84, Value.int IntKind.i64 n85, Value.int IntKind.i64 n86, Value.int IntKind.i64 n87,
        Value.slice a88 k89 k90, Value.slice a91 k92 k93, Value.slice a94 k95 k96]]
        H77 fun v120 H121 =>
        ∃ a122 k123 k124,
        v120 = Value.slice a122 k123 k124 ∧
        Triple Proofs.Try.prog 12 #[Value.pointer a29] H121 fun v125 H126 =>
        ∃ b127 b128 b129 n130 n131 n132 a133 k134 k135 a136 k137 k138 a139 k140 k141 b142,
        v125 =
        Value.tuple
        #[Value.agg
        #[Value.bool b127, Value.bool b128, Value.bool b129, Value.int IntKind.i64 n130, Value.int IntKind.i64 n131,
        Value.int IntKind.i64 n132, Value.slice a133 k134 k135, Value.slice a136 k137 k138, Value.slice a139 k140 k141],
        Value.bool b142] ∧
        ((bif decide (n75 ≥ IntKind.i64.wrap (2 * IntKind.i64.wrap (n6 + 1))) then !b142 else false) = true → Q (Value.bool false) H126) ∧
        ((bif decide (n75 ≥ IntKind.i64.wrap (2 * IntKind.i64.wrap (n6 + 1))) then !b142 else false) = false →
        R73 [Value.int IntKind.i64 n75, Value.int IntKind.i64 (IntKind.i64.wrap (n76 + 1))] H126 ∧
        Less (M74 [Value.int IntKind.i64 n75, Value.int IntKind.i64 (IntKind.i64.wrap (n76 + 1))] H126)
        (M74 [Value.int IntKind.i64 n75, Value.int IntKind.i64 n76] H77)))) ∧
        (decide (n76 < (↑k16 : Int)) = false →
        ∃ (R143 : Rl) (M144 : Mu),
        R143 [Value.int IntKind.i64 n75] H77 ∧
        ∀ (n145 : Int) (H146 : PHeap),
        R143 [Value.int IntKind.i64 n145] H146 →
        (decide (n145 < IntKind.i64.wrap (2 * IntKind.i64.wrap (n6 + 1))) = true →
        Triple Proofs.Try.prog 10 #[Value.pointer a29] H146 fun v147 H148 =>
        ∃ a149 k150 k151,
        v147 = Value.slice a149 k150 k151 ∧
        R143 [Value.int IntKind.i64 (IntKind.i64.wrap (n145 + 1))] H148 ∧
        Less (M144 [Value.int IntKind.i64 (IntKind.i64.wrap (n145 + 1))] H148) (M144 [Value.int IntKind.i64 n145] H146)) ∧
        (decide (n145 < IntKind.i64.wrap (2 * IntKind.i64.wrap (n6 + 1))) = false →
        Triple Proofs.Try.prog 12 #[Value.pointer a29] H146 fun v152 H153 =>
        ∃ b154 b155 b156 n157 n158 n159 a160 k161 k162 a163 k164 k165 a166 k167 k168 b169,
        v152 =
        Value.tuple
        #[Value.agg
        #[Value.bool b154, Value.bool b155, Value.bool b156, Value.int IntKind.i64 n157, Value.int IntKind.i64 n158, Value.int IntKind.i64 n159,
        Value.slice a160 k161 k162, Value.slice a163 k164 k165, Value.slice a166 k167 k168],
        Value.bool b169] ∧
        Triple Proofs.Try.prog 12 #[Value.pointer none] H153 fun v170 H171 =>
        ∃ b172 b173 b174 n175 n176 n177 a178 k179 k180 a181 k182 k183 a184 k185 k186 b187,
        v170 =
        Value.tuple
        #[Value.agg
        #[Value.bool b172, Value.bool b173, Value.bool b174, Value.int IntKind.i64 n175, Value.int IntKind.i64 n176,
        Value.int IntKind.i64 n177, Value.slice a178 k179 k180, Value.slice a181 k182 k183, Value.slice a184 k185 k186],
        Value.bool b187] ∧
        (b169 = true →
        Triple Proofs.Try.prog 10 #[Value.pointer a29] H171 fun v188 H189 =>
        ∃ a190 k191 k192,
        v188 = Value.slice a190 k191 k192 ∧
        (((↑k191 : Int) == 0) = true →
        ((!b187) = true →
        Triple Proofs.Try.prog 10 #[Value.pointer none] H189 fun v193 H194 =>
        ∃ a195 k196 k197,
        v193 = Value.slice a195 k196 k197 ∧
        Triple Proofs.Try.prog 11
        #[Value.pointer none,
        Value.agg
        #[Value.int IntKind.i64 0, Value.int IntKind.i64 0, Value.int IntKind.i64 0, Value.int IntKind.i64 0,
        Value.string ({ data := #[] } : ByteArray), Value.int IntKind.i64 0, Value.int IntKind.i64 0, Value.int IntKind.i64 0,
        Value.int IntKind.i64 0, Value.int IntKind.i64 0, Value.slice none 0 0, Value.slice none 0 0,
        Value.slice none 0 0]]
        H194 fun v198 H199 =>
        ∃ a200 k201 k202,
        v198 = Value.slice a200 k201 k202 ∧
        ((IntKind.i64.wrap ((↑k196 : Int) + (↑k201 : Int)) == 0) = true →
        Triple Proofs.Try.prog 8 #[] H199 fun v203 H204 =>
        ∃ b205, v203 = Value.bool b205 ∧ Q (Value.bool b205) H204) ∧
        ((IntKind.i64.wrap ((↑k196 : Int) + (↑k201 : Int)) == 0) = !true → Q (Value.bool false) H199)) ∧
        ((!b187) = !true → Q (Value.bool false) H189)) ∧
        (((↑k191 : Int) == 0) = !true → Q (Value.bool false) H189)) ∧
        (b169 = !true → Q (Value.bool false) H171))))) ∧
        (b20 = !false → Triple Proofs.Try.prog 8 #[] H19 fun v206 H207 => ∃ b208, v206 = Value.bool b208 ∧ Q (Value.bool b208) H207)) :
    Triple Go.Proofs.Try.prog 4 ([Value.agg #[Value.int IntKind.i64 n1, Value.int IntKind.i64 n2, Value.int IntKind.i64 n3, Value.int IntKind.i64 n4, Value.int IntKind.i64 n5, Value.int IntKind.i64 n6],
  Value.agg #[Value.int IntKind.i64 n7, Value.string s8, Value.bool b9, Value.bool b10, Value.bool b11, Value.int IntKind.i64 n12, Value.int IntKind.i64 n13, Value.int IntKind.i64 n14],
  Value.slice a15 k16 k17]).toArray H Q :=
  Triple.of_vc lawEnds.cx (by kernel_rfl) h

theorem lawTwice.vc (n1 : Int) (n2 : Int) (n3 : Int) (n4 : Int) (n5 : Int) (n6 : Int) (n7 : Int) (s8 : ByteArray) (b9 : Bool) (b10 : Bool) (b11 : Bool) (n12 : Int) (n13 : Int) (n14 : Int) (a15 : Option Addr) (k16 : Nat) (k17 : Nat) (H : PHeap) (Q : Value → PHeap → Prop)
    (h : Triple Proofs.Try.prog 7 #[Value.slice a15 k16 k17] H fun v18 H19 =>
  ∃ b20,
    v18 = Value.bool b20 ∧
      (b20 = false →
        Triple Proofs.Try.prog 6
        #[Value.agg #[Value.int IntKind.i64 n1, Value.int IntKind.i64 n2, Value.int IntKind.i64 n3, Value.int IntKind.i64 n4, Value.int IntKind.i64 n5, Value.int IntKind.i64 n6]] H19
        fun v21 H22 =>
        ∃ b23,
        v21 = Value.bool b23 ∧
        ((bif !b23 then true else bif decide (n1 > 20) then true else bif decide ((↑s8.size : Int) > 40) then true else bif decide (n7 < 0) then true else decide (n7 > 1099511627776)) = true →
        Triple Proofs.Try.prog 8 #[] H22 fun v24 H25 => ∃ b26, v24 = Value.bool b26 ∧ Q (Value.bool b26) H25) ∧
        ((bif !b23 then true else bif decide (n1 > 20) then true else bif decide ((↑s8.size : Int) > 40) then true else bif decide (n7 < 0) then true else decide (n7 > 1099511627776)) =
        false →
        Triple Proofs.Try.prog 13
        #[Value.agg #[Value.int IntKind.i64 n1, Value.int IntKind.i64 n2, Value.int IntKind.i64 n3, Value.int IntKind.i64 n4, Value.int IntKind.i64 n5, Value.int IntKind.i64 n6],
        Value.agg
        #[Value.int IntKind.i64 n7, Value.string s8, Value.bool b9, Value.bool b10, Value.bool b11, Value.int IntKind.i64 n12, Value.int IntKind.i64 n13, Value.int IntKind.i64 n14]]
        H22 fun v27 H28 =>
        ∃ a29 n30 n31 n32 n33 n34 n35 n36 s37 b38 b39 n40 n41 a42 k43 k44 a45 k46 k47 a48 k49 k50 n51 b52 b53 b54 n55 n56 n57 a58 k59 k60 a61 k62 k63 a64 k65 k66 a67 k68 k69 a70 k71 k72,
        v27 =
        Value.tuple
        #[Value.pointer a29,
        Value.agg
        #[Value.int IntKind.i64 n30, Value.int IntKind.i64 n31, Value.int IntKind.i64 n32, Value.int IntKind.i64 n33, Value.int IntKind.i64 n34, Value.int IntKind.i64 n35,
        Value.int IntKind.i64 n36, Value.string s37, Value.bool b38, Value.bool b39, Value.int IntKind.i64 n40, Value.int IntKind.i64 n41, Value.slice a42 k43 k44,
        Value.slice a45 k46 k47, Value.slice a48 k49 k50, Value.int IntKind.i64 n51, Value.bool b52, Value.bool b53, Value.bool b54, Value.int IntKind.i64 n55,
        Value.int IntKind.i64 n56, Value.int IntKind.i64 n57, Value.slice a58 k59 k60, Value.slice a61 k62 k63, Value.slice a64 k65 k66],
        Value.slice a67 k68 k69, Value.slice a70 k71 k72] ∧
        Triple Proofs.Try.prog 13
        #[Value.agg #[Value.int IntKind.i64 n1, Value.int IntKind.i64 n2, Value.int IntKind.i64 n3, Value.int IntKind.i64 n4, Value.int IntKind.i64 n5, Value.int IntKind.i64 n6],
        Value.agg
        #[Value.int IntKind.i64 n7, Value.string s8, Value.bool b9, Value.bool b10, Value.bool b11, Value.int IntKind.i64 n12, Value.int IntKind.i64 n13,
        Value.int IntKind.i64 n14]]
        H28 fun v73 H74 =>
        ∃ a75 n76 n77 n78 n79 n80 n81 n82 s83 b84 b85 n86 n87 a88 k89 k90 a91 k92 k93 a94 k95 k96 n97 b98 b99 b100 n101 n102 n103 a104 k105 k106 a107 k108 k109 a110 k111 k112 a113
        k114 k115 a116 k117 k118,
        v73 =
        Value.tuple
        #[Value.pointer a75,
        Value.agg
        #[Value.int IntKind.i64 n76, Value.int IntKind.i64 n77, Value.int IntKind.i64 n78, Value.int IntKind.i64 n79, Value.int IntKind.i64 n80,
        Value.int IntKind.i64 n81, Value.int IntKind.i64 n82, Value.string s83, Value.bool b84, Value.bool b85, Value.int IntKind.i64 n86, Value.int IntKind.i64 n87,
        Value.slice a88 k89 k90, Value.slice a91 k92 k93, Value.slice a94 k95 k96, Value.int IntKind.i64 n97, Value.bool b98, Value.bool b99, Value.bool b100,
        Value.int IntKind.i64 n101, Value.int IntKind.i64 n102, Value.int IntKind.i64 n103, Value.slice a104 k105 k106, Value.slice a107 k108 k109,
        Value.slice a110 k111 k112],
        Value.slice a113 k114 k115, Value.slice a116 k117 k118] ∧
        ∃ (R119 : Rl) (M120 : Mu),
        R119
        [Value.int IntKind.i64 0,
        Value.agg
        #[Value.int IntKind.i64 n30, Value.int IntKind.i64 n31, Value.int IntKind.i64 n32, Value.int IntKind.i64 n33, Value.int IntKind.i64 n34,
        Value.int IntKind.i64 n35, Value.int IntKind.i64 n36, Value.string s37, Value.bool b38, Value.bool b39, Value.int IntKind.i64 n40,
        Value.int IntKind.i64 n41, Value.slice a42 k43 k44, Value.slice a45 k46 k47, Value.slice a48 k49 k50, Value.int IntKind.i64 n51, Value.bool b52,
        Value.bool b53, Value.bool b54, Value.int IntKind.i64 n55, Value.int IntKind.i64 n56, Value.int IntKind.i64 n57, Value.slice a58 k59 k60,
        Value.slice a61 k62 k63, Value.slice a64 k65 k66]]
        H74 ∧
        ∀ (n121 n122 n123 n124 n125 n126 n127 n128 : Int) (s129 : ByteArray) (b130 b131 : Bool) (n132 n133 : Int) (a134 : Option Addr) (k135 k136 : Nat)
        (a137 : Option Addr) (k138 k139 : Nat) (a140 : Option Addr) (k141 k142 : Nat) (n143 : Int) (b144 b145 b146 : Bool) (n147 n148 n149 : Int) (a150 : Option Addr)
        (k151 k152 : Nat) (a153 : Option Addr) (k154 k155 : Nat) (a156 : Option Addr) (k157 k158 : Nat) (H159 : PHeap),
        R119
        [Value.int IntKind.i64 n121,
        Value.agg
        #[Value.int IntKind.i64 n122, Value.int IntKind.i64 n123, Value.int IntKind.i64 n124, Value.int IntKind.i64 n125, Value.int IntKind.i64 n126,
        Value.int IntKind.i64 n127, Value.int IntKind.i64 n128, Value.string s129, Value.bool b130, Value.bool b131, Value.int IntKind.i64 n132,
        Value.int IntKind.i64 n133, Value.slice a134 k135 k136, Value.slice a137 k138 k139, Value.slice a140 k141 k142, Value.int IntKind.i64 n143,
        Value.bool b144, Value.bool b145, Value.bool b146, Value.int IntKind.i64 n147, Value.int IntKind.i64 n148, Value.int IntKind.i64 n149,
        Value.slice a150 k151 k152, Value.slice a153 k154 k155, Value.slice a156 k157 k158]]
        H159 →
        (decide (n121 < (↑k16 : Int)) = true →
        Ob (a15 ≠ none ∧ 0 ≤ n121 ∧ n121 < (↑k16 : Int)) ∧
        ∃ n160 n161 n162 n163 s164 n165 n166 n167 n168 n169 a170 k171 k172 a173 k174 k175 a176 k177 k178,
        Reads H159 (elemA a15 n121 13)
        [Value.int IntKind.i64 n160, Value.int IntKind.i64 n161, Value.int IntKind.i64 n162, Value.int IntKind.i64 n163, Value.string s164,
        Value.int IntKind.i64 n165, Value.int IntKind.i64 n166, Value.int IntKind.i64 n167, Value.int IntKind.i64 n168, Value.int IntKind.i64 n169,
        Value.slice a170 k171 k172, Value.slice a173 k174 k175, Value.slice a176 k177 k178] ∧
        ((n160 == 0) = true →
        Triple Proofs.Try.prog 10 #[Value.pointer a29] H159 fun v179 H180 =>
        ∃ a181 k182 k183,
        v179 = Value.slice a181 k182 k183 ∧
        Triple Proofs.Try.prog 10 #[Value.pointer a75] H180 fun v184 H185 =>
        ∃ a186 k187 k188,
        v184 = Value.slice a186 k187 k188 ∧
        Triple Proofs.Try.prog 14 #[Value.slice a181 k182 k183, Value.slice a186 k187 k188] H185 fun v189 H190 =>
        ∃ b191,
        v189 = Value.bool b191 ∧
        ((!b191) = true → Q (Value.bool false) H190) ∧
        ((!b191) = false →
        Triple Proofs.Try.prog 15
        #[Value.agg
        #[Value.int IntKind.i64 n122, Value.int IntKind.i64 n123, Value.int IntKind.i64 n124, Value.int IntKind.i64 n125,
        Value.int IntKind.i64 n126, Value.int IntKind.i64 n127, Value.int IntKind.i64 n128, Value.string s129,
        Value.bool b130, Value.bool b131, Value.int IntKind.i64 n132, Value.int IntKind.i64 n133,
        Value.slice a134 k135 k136, Value.slice a137 k138 k139, Value.slice a140 k141 k142, Value.int IntKind.i64 n143,
        Value.bool b144, Value.bool b145, Value.bool b146, Value.int IntKind.i64 n147, Value.int IntKind.i64 n148,
        Value.int IntKind.i64 n149, Value.slice a150 k151 k152, Value.slice a153 k154 k155, Value.slice a156 k157 k158]]
        H190 fun v192 H193 =>
        ∃ n194 n195 n196 n197 n198 n199 n200 s201 b202 b203 n204 n205 a206 k207 k208 a209 k210 k211 a212 k213 k214 n215 b216 b217
        b218 n219 n220 n221 a222 k223 k224 a225 k226 k227 a228 k229 k230 a231 k232 k233,
        v192 =
        Value.tuple
        #[Value.agg
        #[Value.int IntKind.i64 n194, Value.int IntKind.i64 n195, Value.int IntKind.i64 n196,
        Value.int IntKind.i64 n197, Value.int IntKind.i64 n198, Value.int IntKind.i64 n199,
        Value.int IntKind.i64 n200, Value.string s201, Value.bool b202, Value.bool b203, Value.int IntKind.i64 n204,
        Value.int IntKind.i64 n205, Value.slice a206 k207 k208, Value.slice a209 k210 k211,
        Value.slice a212 k213 k214, Value.int IntKind.i64 n215, Value.bool b216, Value.bool b217, Value.bool b218,
        Value.int IntKind.i64 n219, Value.int IntKind.i64 n220, Value.int IntKind.i64 n221,
        Value.slice a222 k223 k224, Value.slice a225 k226 k227, Value.slice a228 k229 k230],
        Value.slice a231 k232 k233] ∧
        R119
        [Value.int IntKind.i64 (IntKind.i64.wrap (n121 + 1)),
        Value.agg
        #[Value.int IntKind.i64 n194, Value.int IntKind.i64 n195, Value.int IntKind.i64 n196,
        Value.int IntKind.i64 n197, Value.int IntKind.i64 n198, Value.int IntKind.i64 n199,
        Value.int IntKind.i64 n200, Value.string s201, Value.bool b202, Value.bool b203, Value.int IntKind.i64 n204,
        Value.int IntKind.i64 n205, Value.slice a206 k207 k208, Value.slice a209 k210 k211,
        Value.slice a212 k213 k214, Value.int IntKind.i64 n215, Value.bool b216, Value.bool b217, Value.bool b218,
        Value.int IntKind.i64 n219, Value.int IntKind.i64 n220, Value.int IntKind.i64 n221,
        Value.slice a222 k223 k224, Value.slice a225 k226 k227, Value.slice a228 k229 k230]]
        H193 ∧
        Less
        (M120
        [Value.int IntKind.i64 (IntKind.i64.wrap (n121 + 1)),
        Value.agg
        #[Value.int IntKind.i64 n194, Value.int IntKind.i64 n195, Value.int IntKind.i64 n196,
        Value.int IntKind.i64 n197, Value.int IntKind.i64 n198, Value.int IntKind.i64 n199,
        Value.int IntKind.i64 n200, Value.string s201, Value.bool b202, Value.bool b203,
        Value.int IntKind.i64 n204, Value.int IntKind.i64 n205, Value.slice a206 k207 k208,
        Value.slice a209 k210 k211, Value.slice a212 k213 k214, Value.int IntKind.i64 n215, Value.bool b216,
        Value.bool b217, Value.bool b218, Value.int IntKind.i64 n219, Value.int IntKind.i64 n220,
        Value.int IntKind.i64 n221, Value.slice a222 k223 k224, Value.slice a225 k226 k227,
        Value.slice a228 k229 k230]]
        H193)
        (M120
        [Value.int IntKind.i64 n121,
        Value.agg
        #[Value.int IntKind.i64 n122, Value.int IntKind.i64 n123, Value.int IntKind.i64 n124,
        Value.int IntKind.i64 n125, Value.int IntKind.i64 n126, Value.int IntKind.i64 n127,
        Value.int IntKind.i64 n128, Value.string s129, Value.bool b130, Value.bool b131,
        Value.int IntKind.i64 n132, Value.int IntKind.i64 n133, Value.slice a134 k135 k136,
        Value.slice a137 k138 k139, Value.slice a140 k141 k142, Value.int IntKind.i64 n143, Value.bool b144,
        Value.bool b145, Value.bool b146, Value.int IntKind.i64 n147, Value.int IntKind.i64 n148,
        Value.int IntKind.i64 n149, Value.slice a150 k151 k152, Value.slice a153 k154 k155,
        Value.slice a156 k157 k158]]
        H159))) ∧
        ((n160 == 0) = false →
        ∃ H234,
        Vx.Sub H234 H159 ∧
        Triple Proofs.Try.prog 11
        #[Value.pointer a29,
        Value.agg
        #[Value.int IntKind.i64 n160, Value.int IntKind.i64 n161, Value.int IntKind.i64 n162, Value.int IntKind.i64 n163, Value.string s164,
        Value.int IntKind.i64 n165, Value.int IntKind.i64 n166, Value.int IntKind.i64 n167, Value.int IntKind.i64 n168,
        Value.int IntKind.i64 n169, Value.slice a170 k171 k172, Value.slice a173 k174 k175, Value.slice a176 k177 k178]]
        H159 fun v235 H236 =>
        ∃ a237 k238 k239,
        v235 = Value.slice a237 k238 k239 ∧
        Vx.Sub H234 H236 ∧
        Triple Proofs.Try.prog 11
        #[Value.pointer a75,
        Value.agg
        #[Value.int IntKind.i64 n160, Value.int IntKind.i64 n161, Value.int IntKind.i64 n162, Value.int IntKind.i64 n163,
        Value.string s164, Value.int IntKind.i64 n165, Value.int IntKind.i64 n166, Value.int IntKind.i64 n167,
        Value.int IntKind.i64 n168, Value.int IntKind.i64 n169, Value.slice a170 k171 k172, Value.slice a173 k174 k175,
        Value.slice a176 k177 k178]]
        H236 fun v240 H241 =>
        ∃ a242 k243 k244,
        v240 = Value.slice a242 k243 k244 ∧
        Triple Proofs.Try.prog 16
        #[Value.agg
        #[Value.int IntKind.i64 n122, Value.int IntKind.i64 n123, Value.int IntKind.i64 n124, Value.int IntKind.i64 n125,
        Value.int IntKind.i64 n126, Value.int IntKind.i64 n127, Value.int IntKind.i64 n128, Value.string s129, Value.bool b130,
        Value.bool b131, Value.int IntKind.i64 n132, Value.int IntKind.i64 n133, Value.slice a134 k135 k136,
        Value.slice a137 k138 k139, Value.slice a140 k141 k142, Value.int IntKind.i64 n143, Value.bool b144, Value.bool b145,
        Value.bool b146, Value.int IntKind.i64 n147, Value.int IntKind.i64 n148, Value.int IntKind.i64 n149,
        Value.slice a150 k151 k152, Value.slice a153 k154 k155, Value.slice a156 k157 k158],
        Value.agg
        #[Value.int IntKind.i64 n160, Value.int IntKind.i64 n161, Value.int IntKind.i64 n162, Value.int IntKind.i64 n163,
        Value.string s164, Value.int IntKind.i64 n165, Value.int IntKind.i64 n166, Value.int IntKind.i64 n167,
        Value.int IntKind.i64 n168, Value.int IntKind.i64 n169, Value.slice a170 k171 k172, Value.slice a173 k174 k175,
        Value.slice a176 k177 k178]]
        H241 fun v245 H246 =>
        ∃ n247 n248 n249 n250 n251 n252 n253 s254 b255 b256 n257 n258 a259 k260 k261 a262 k263 k264 a265 k266 k267 n268 b269 b270 b271
        n272 n273 n274 a275 k276 k277 a278 k279 k280 a281 k282 k283 a284 k285 k286,
        v245 =
        Value.tuple
        #[Value.agg
        #[Value.int IntKind.i64 n247, Value.int IntKind.i64 n248, Value.int IntKind.i64 n249, Value.int IntKind.i64 n250,
        Value.int IntKind.i64 n251, Value.int IntKind.i64 n252, Value.int IntKind.i64 n253, Value.string s254,
        Value.bool b255, Value.bool b256, Value.int IntKind.i64 n257, Value.int IntKind.i64 n258,
        Value.slice a259 k260 k261, Value.slice a262 k263 k264, Value.slice a265 k266 k267, Value.int IntKind.i64 n268,
        Value.bool b269, Value.bool b270, Value.bool b271, Value.int IntKind.i64 n272, Value.int IntKind.i64 n273,
        Value.int IntKind.i64 n274, Value.slice a275 k276 k277, Value.slice a278 k279 k280, Value.slice a281 k282 k283],
        Value.slice a284 k285 k286] ∧
        Triple Proofs.Try.prog 14 #[Value.slice a237 k238 k239, Value.slice a242 k243 k244] H246 fun v287 H288 =>
        ∃ b289,
        v287 = Value.bool b289 ∧
        ((!b289) = false →
        Triple Proofs.Try.prog 11
        #[Value.pointer a75,
        Value.agg
        #[Value.int IntKind.i64 n160, Value.int IntKind.i64 n161, Value.int IntKind.i64 n162,
        Value.int IntKind.i64 n163, Value.string s164, Value.int IntKind.i64 n165, Value.int IntKind.i64 n166,
        Value.int IntKind.i64 n167, Value.int IntKind.i64 n168, Value.int IntKind.i64 n169,
        Value.slice a170 k171 k172, Value.slice a173 k174 k175, Value.slice a176 k177 k178]]
        H288 fun v290 H291 =>
        ∃ a292 k293 k294,
        v290 = Value.slice a292 k293 k294 ∧
        (((↑k293 : Int) != 0) = true → Q (Value.bool false) H291) ∧
        (((↑k293 : Int) != 0) = false →
        R119
        [Value.int IntKind.i64 (IntKind.i64.wrap (n121 + 1)),
        Value.agg
        #[Value.int IntKind.i64 n247, Value.int IntKind.i64 n248, Value.int IntKind.i64 n249,
        Value.int IntKind.i64 n250, Value.int IntKind.i64 n251, Value.int IntKind.i64 n252,
        Value.int IntKind.i64 n253, Value.string s254, Value.bool b255, Value.bool b256,
        Value.int IntKind.i64 n257, Value.int IntKind.i64 n258, Value.slice a259 k260 k261,
        Value.slice a262 k263 k264, Value.slice a265 k266 k267, Value.int IntKind.i64 n268,
        Value.bool b269, Value.bool b270, Value.bool b271, Value.int IntKind.i64 n272,
        Value.int IntKind.i64 n273, Value.int IntKind.i64 n274, Value.slice a275 k276 k277,
        Value.slice a278 k279 k280, Value.slice a281 k282 k283]]
        H291 ∧
        Less
        (M120
        [Value.int IntKind.i64 (IntKind.i64.wrap (n121 + 1)),
        Value.agg
        #[Value.int IntKind.i64 n247, Value.int IntKind.i64 n248, Value.int IntKind.i64 n249,
        Value.int IntKind.i64 n250, Value.int IntKind.i64 n251, Value.int IntKind.i64 n252,
        Value.int IntKind.i64 n253, Value.string s254, Value.bool b255, Value.bool b256,
        Value.int IntKind.i64 n257, Value.int IntKind.i64 n258, Value.slice a259 k260 k261,
        Value.slice a262 k263 k264, Value.slice a265 k266 k267, Value.int IntKind.i64 n268,
        Value.bool b269, Value.bool b270, Value.bool b271, Value.int IntKind.i64 n272,
        Value.int IntKind.i64 n273, Value.int IntKind.i64 n274, Value.slice a275 k276 k277,
        Value.slice a278 k279 k280, Value.slice a281 k282 k283]]
        H291)
        (M120
        [Value.int IntKind.i64 n121,
        Value.agg
        #[Value.int IntKind.i64 n122, Value.int IntKind.i64 n123, Value.int IntKind.i64 n124,
        Value.int IntKind.i64 n125, Value.int IntKind.i64 n126, Value.int IntKind.i64 n127,
        Value.int IntKind.i64 n128, Value.string s129, Value.bool b130, Value.bool b131,
        Value.int IntKind.i64 n132, Value.int IntKind.i64 n133, Value.slice a134 k135 k136,
        Value.slice a137 k138 k139, Value.slice a140 k141 k142, Value.int IntKind.i64 n143,
        Value.bool b144, Value.bool b145, Value.bool b146, Value.int IntKind.i64 n147,
        Value.int IntKind.i64 n148, Value.int IntKind.i64 n149, Value.slice a150 k151 k152,
        Value.slice a153 k154 k155, Value.slice a156 k157 k158]]
        H159))) ∧
        ((!b289) = !false → Q (Value.bool false) H288))) ∧
        (decide (n121 < (↑k16 : Int)) = false →
        Triple Proofs.Try.prog 12 #[Value.pointer a29] H159 fun v295 H296 =>
        ∃ b297 b298 b299 n300 n301 n302 a303 k304 k305 a306 k307 k308 a309 k310 k311 b312,
        v295 =
        Value.tuple
        #[Value.agg
        #[Value.bool b297, Value.bool b298, Value.bool b299, Value.int IntKind.i64 n300, Value.int IntKind.i64 n301, Value.int IntKind.i64 n302,
        Value.slice a303 k304 k305, Value.slice a306 k307 k308, Value.slice a309 k310 k311],
        Value.bool b312] ∧
        Triple Proofs.Try.prog 12 #[Value.pointer a75] H296 fun v313 H314 =>
        ∃ b315 b316 b317 n318 n319 n320 a321 k322 k323 a324 k325 k326 a327 k328 k329 b330,
        v313 =
        Value.tuple
        #[Value.agg
        #[Value.bool b315, Value.bool b316, Value.bool b317, Value.int IntKind.i64 n318, Value.int IntKind.i64 n319, Value.int IntKind.i64 n320,
        Value.slice a321 k322 k323, Value.slice a324 k325 k326, Value.slice a327 k328 k329],
        Value.bool b330] ∧
        Triple Proofs.Try.prog 17
        #[Value.agg
        #[Value.bool b297, Value.bool b298, Value.bool b299, Value.int IntKind.i64 n300, Value.int IntKind.i64 n301, Value.int IntKind.i64 n302,
        Value.slice a303 k304 k305, Value.slice a306 k307 k308, Value.slice a309 k310 k311],
        Value.bool b312,
        Value.agg
        #[Value.int IntKind.i64 n122, Value.int IntKind.i64 n123, Value.int IntKind.i64 n124, Value.int IntKind.i64 n125,
        Value.int IntKind.i64 n126, Value.int IntKind.i64 n127, Value.int IntKind.i64 n128, Value.string s129, Value.bool b130, Value.bool b131,
        Value.int IntKind.i64 n132, Value.int IntKind.i64 n133, Value.slice a134 k135 k136, Value.slice a137 k138 k139,
        Value.slice a140 k141 k142, Value.int IntKind.i64 n143, Value.bool b144, Value.bool b145, Value.bool b146, Value.int IntKind.i64 n147,
        Value.int IntKind.i64 n148, Value.int IntKind.i64 n149, Value.slice a150 k151 k152, Value.slice a153 k154 k155,
        Value.slice a156 k157 k158]]
        H314 fun v331 H332 =>
        ∃ b333,
        v331 = Value.bool b333 ∧
        (b333 = true →
        Triple Proofs.Try.prog 17
        #[Value.agg
        #[Value.bool b315, Value.bool b316, Value.bool b317, Value.int IntKind.i64 n318, Value.int IntKind.i64 n319,
        Value.int IntKind.i64 n320, Value.slice a321 k322 k323, Value.slice a324 k325 k326, Value.slice a327 k328 k329],
        Value.bool b330,
        Value.agg
        #[Value.int IntKind.i64 n122, Value.int IntKind.i64 n123, Value.int IntKind.i64 n124, Value.int IntKind.i64 n125,
        Value.int IntKind.i64 n126, Value.int IntKind.i64 n127, Value.int IntKind.i64 n128, Value.string s129, Value.bool b130,
        Value.bool b131, Value.int IntKind.i64 n132, Value.int IntKind.i64 n133, Value.slice a134 k135 k136,
        Value.slice a137 k138 k139, Value.slice a140 k141 k142, Value.int IntKind.i64 n143, Value.bool b144, Value.bool b145,
        Value.bool b146, Value.int IntKind.i64 n147, Value.int IntKind.i64 n148, Value.int IntKind.i64 n149,
        Value.slice a150 k151 k152, Value.slice a153 k154 k155, Value.slice a156 k157 k158]]
        H332 fun v334 H335 =>
        ∃ b336,
        v334 = Value.bool b336 ∧
        (b336 = true → Triple Proofs.Try.prog 8 #[] H335 fun v337 H338 => ∃ b339, v337 = Value.bool b339 ∧ Q (Value.bool b339) H338) ∧
        (b336 = !true → Q (Value.bool false) H335)) ∧
        (b333 = !true → Q (Value.bool false) H332)))) ∧
        (b20 = !false → Triple Proofs.Try.prog 8 #[] H19 fun v340 H341 => ∃ b342, v340 = Value.bool b342 ∧ Q (Value.bool b342) H341)) :
    Triple Go.Proofs.Try.prog 5 ([Value.agg #[Value.int IntKind.i64 n1, Value.int IntKind.i64 n2, Value.int IntKind.i64 n3, Value.int IntKind.i64 n4, Value.int IntKind.i64 n5, Value.int IntKind.i64 n6],
  Value.agg #[Value.int IntKind.i64 n7, Value.string s8, Value.bool b9, Value.bool b10, Value.bool b11, Value.int IntKind.i64 n12, Value.int IntKind.i64 n13, Value.int IntKind.i64 n14],
  Value.slice a15 k16 k17]).toArray H Q :=
  Triple.of_vc lawTwice.cx (by kernel_rfl) h

theorem lawSame.vc (b1 : Bool) (b2 : Bool) (b3 : Bool) (n4 : Int) (n5 : Int) (n6 : Int) (a7 : Option Addr) (k8 : Nat) (k9 : Nat) (a10 : Option Addr) (k11 : Nat) (k12 : Nat) (a13 : Option Addr) (k14 : Nat) (k15 : Nat) (b16 : Bool) (n17 : Int) (n18 : Int) (n19 : Int) (n20 : Int) (n21 : Int) (n22 : Int) (n23 : Int) (s24 : ByteArray) (b25 : Bool) (b26 : Bool) (n27 : Int) (n28 : Int) (a29 : Option Addr) (k30 : Nat) (k31 : Nat) (a32 : Option Addr) (k33 : Nat) (k34 : Nat) (a35 : Option Addr) (k36 : Nat) (k37 : Nat) (n38 : Int) (b39 : Bool) (b40 : Bool) (b41 : Bool) (n42 : Int) (n43 : Int) (n44 : Int) (a45 : Option Addr) (k46 : Nat) (k47 : Nat) (a48 : Option Addr) (k49 : Nat) (k50 : Nat) (a51 : Option Addr) (k52 : Nat) (k53 : Nat) (H : PHeap) (Q : Value → PHeap → Prop)
    (h : ((!b16 == (n27 == 2)) = true → Q (Value.bool false) H) ∧
  ((!b16 == (n27 == 2)) = false →
    ((!b16) = true →
        Q
        (Value.bool
        (bif !b1 then
        bif !b2 then bif IntKind.i64.wrap (IntKind.i64.wrap ((↑k8 : Int) + (↑k11 : Int)) + (↑k14 : Int)) == 0 then b3 == false && (n4 == 0 && (n5 == 0 && n6 == 0)) else false else false
        else false))
        H) ∧
      ((!b16) = false →
        ((b1 == b39) = true →
        ((b2 == b40) = true →
        ((b3 == b41 && (n4 == n42 && (n5 == n43 && n6 == n44))) = true →
        Triple Proofs.Try.prog 37 #[Value.slice a7 k8 k9, Value.slice a45 k46 k47] H fun v54 H55 =>
        ∃ b56,
        v54 = Value.bool b56 ∧
        (b56 = true →
        Triple Proofs.Try.prog 37 #[Value.slice a10 k11 k12, Value.slice a48 k49 k50] H55 fun v57 H58 =>
        ∃ b59,
        v57 = Value.bool b59 ∧
        (b59 = true →
        Triple Proofs.Try.prog 14 #[Value.slice a13 k14 k15, Value.slice a51 k52 k53] H58 fun v60 H61 => ∃ b62, v60 = Value.bool b62 ∧ Q (Value.bool b62) H61) ∧
        (b59 = !true → Q (Value.bool false) H58)) ∧
        (b56 = !true → Q (Value.bool false) H55)) ∧
        ((b3 == b41 && (n4 == n42 && (n5 == n43 && n6 == n44))) = !true → Q (Value.bool false) H)) ∧
        ((b2 == b40) = !true → Q (Value.bool false) H)) ∧
        ((b1 == b39) = !true → Q (Value.bool false) H)))) :
    Triple Go.Proofs.Try.prog 17 ([Value.agg
    #[Value.bool b1, Value.bool b2, Value.bool b3, Value.int IntKind.i64 n4, Value.int IntKind.i64 n5, Value.int IntKind.i64 n6, Value.slice a7 k8 k9, Value.slice a10 k11 k12,
      Value.slice a13 k14 k15],
  Value.bool b16,
  Value.agg
    #[Value.int IntKind.i64 n17, Value.int IntKind.i64 n18, Value.int IntKind.i64 n19, Value.int IntKind.i64 n20, Value.int IntKind.i64 n21, Value.int IntKind.i64 n22, Value.int IntKind.i64 n23,
      Value.string s24, Value.bool b25, Value.bool b26, Value.int IntKind.i64 n27, Value.int IntKind.i64 n28, Value.slice a29 k30 k31, Value.slice a32 k33 k34, Value.slice a35 k36 k37,
      Value.int IntKind.i64 n38, Value.bool b39, Value.bool b40, Value.bool b41, Value.int IntKind.i64 n42, Value.int IntKind.i64 n43, Value.int IntKind.i64 n44, Value.slice a45 k46 k47,
      Value.slice a48 k49 k50, Value.slice a51 k52 k53]]).toArray H Q :=
  Triple.of_vc lawSame.cx (by kernel_rfl) h

theorem lawFar.vc (a1 : Option Addr) (k2 : Nat) (k3 : Nat) (H : PHeap) (Q : Value → PHeap → Prop)
    (h : ∃ (R4 : Rl) (M5 : Mu),
  R4 [Value.int IntKind.i64 0] H ∧
    ∀ (n6 : Int) (H7 : PHeap),
      R4 [Value.int IntKind.i64 n6] H7 →
        (decide (n6 < (↑k2 : Int)) = true →
        Ob (a1 ≠ none ∧ 0 ≤ n6 ∧ n6 < (↑k2 : Int)) ∧
        ∃ n8 n9 n10 n11 s12 n13 n14 n15 n16 n17 a18 k19 k20 a21 k22 k23 a24 k25 k26,
        Reads H7 (elemA a1 n6 13)
        [Value.int IntKind.i64 n8, Value.int IntKind.i64 n9, Value.int IntKind.i64 n10, Value.int IntKind.i64 n11, Value.string s12, Value.int IntKind.i64 n13, Value.int IntKind.i64 n14,
        Value.int IntKind.i64 n15, Value.int IntKind.i64 n16, Value.int IntKind.i64 n17, Value.slice a18 k19 k20, Value.slice a21 k22 k23, Value.slice a24 k25 k26] ∧
        Triple Proofs.Try.prog 18
        #[Value.agg
        #[Value.int IntKind.i64 n8, Value.int IntKind.i64 n9, Value.int IntKind.i64 n10, Value.int IntKind.i64 n11, Value.string s12, Value.int IntKind.i64 n13,
        Value.int IntKind.i64 n14, Value.int IntKind.i64 n15, Value.int IntKind.i64 n16, Value.int IntKind.i64 n17, Value.slice a18 k19 k20, Value.slice a21 k22 k23,
        Value.slice a24 k25 k26]]
        H7 fun v27 H28 =>
        ∃ b29,
        v27 = Value.bool b29 ∧
        (b29 = true → Q (Value.bool true) H28) ∧
        (b29 = false →
        R4 [Value.int IntKind.i64 (IntKind.i64.wrap (n6 + 1))] H28 ∧ Less (M5 [Value.int IntKind.i64 (IntKind.i64.wrap (n6 + 1))] H28) (M5 [Value.int IntKind.i64 n6] H7))) ∧
        (decide (n6 < (↑k2 : Int)) = false → Q (Value.bool (decide ((↑k2 : Int) > 200))) H7)) :
    Triple Go.Proofs.Try.prog 7 ([Value.slice a1 k2 k3]).toArray H Q :=
  Triple.of_vc lawFar.cx (by kernel_rfl) h

theorem lawAlive.vc (H : PHeap) (Q : Value → PHeap → Prop)
    (h : Triple Proofs.Try.prog 19 #[] H fun v1 H2 =>
  ∃ n3 n4 n5 n6 n7 n8,
    v1 = Value.agg #[Value.int IntKind.i64 n3, Value.int IntKind.i64 n4, Value.int IntKind.i64 n5, Value.int IntKind.i64 n6, Value.int IntKind.i64 n7, Value.int IntKind.i64 n8] ∧
      Triple Proofs.Try.prog 9
        #[Value.agg #[Value.int IntKind.i64 n3, Value.int IntKind.i64 n4, Value.int IntKind.i64 n5, Value.int IntKind.i64 n6, Value.int IntKind.i64 n7, Value.int IntKind.i64 n8],
        Value.int IntKind.i64 5, Value.string { data := #[97] }, Value.bool false]
        H2 fun v9 H10 =>
        ∃ a11 a12 k13 k14,
        v9 = Value.tuple #[Value.pointer a11, Value.slice a12 k13 k14] ∧
        ∃ (R15 : Rl) (M16 : Mu),
        R15 [Value.int IntKind.i64 0] H10 ∧
        ∀ (n17 : Int) (H18 : PHeap),
        R15 [Value.int IntKind.i64 n17] H18 →
        (decide (n17 < (↑k13 : Int)) = true →
        Ob (a12 ≠ none ∧ 0 ≤ n17 ∧ n17 < (↑k13 : Int)) ∧
        ∃ n19 n20 n21 n22 s23 n24 n25 n26 n27 n28 a29 k30 k31 a32 k33 k34 a35 k36 k37,
        Reads H18 (elemA a12 n17 13)
        [Value.int IntKind.i64 n19, Value.int IntKind.i64 n20, Value.int IntKind.i64 n21, Value.int IntKind.i64 n22, Value.string s23, Value.int IntKind.i64 n24,
        Value.int IntKind.i64 n25, Value.int IntKind.i64 n26, Value.int IntKind.i64 n27, Value.int IntKind.i64 n28, Value.slice a29 k30 k31, Value.slice a32 k33 k34,
        Value.slice a35 k36 k37] ∧
        ∀ (k38 : Nat),
        H18 k38 = none →
        Triple Proofs.Try.prog 11
        #[Value.pointer a11,
        Value.agg
        #[Value.int IntKind.i64 14, Value.int IntKind.i64 n21, Value.int IntKind.i64 0, Value.int IntKind.i64 5, Value.string { data := #[97] },
        Value.int IntKind.i64 0, Value.int IntKind.i64 0, Value.int IntKind.i64 0, Value.int IntKind.i64 0, Value.int IntKind.i64 0,
        Value.slice (at0 k38) 3 3, Value.slice none 0 0, Value.slice none 0 0]]
        (H18.upd k38 (Obj.cells #[Value.int IntKind.i64 0, Value.int IntKind.i64 0, Value.int IntKind.i64 1] 3)) fun v39 H40 =>
        ∃ a41 k42 k43,
        v39 = Value.slice a41 k42 k43 ∧
        R15 [Value.int IntKind.i64 (IntKind.i64.wrap (n17 + 1))] H40 ∧
        Less (M16 [Value.int IntKind.i64 (IntKind.i64.wrap (n17 + 1))] H40) (M16 [Value.int IntKind.i64 n17] H18)) ∧
        (decide (n17 < (↑k13 : Int)) = false →
        Triple Proofs.Try.prog 12 #[Value.pointer a11] H18 fun v44 H45 =>
        ∃ b46 b47 b48 n49 n50 n51 a52 k53 k54 a55 k56 k57 a58 k59 k60 b61,
        v44 =
        Value.tuple
        #[Value.agg
        #[Value.bool b46, Value.bool b47, Value.bool b48, Value.int IntKind.i64 n49, Value.int IntKind.i64 n50, Value.int IntKind.i64 n51, Value.slice a52 k53 k54,
        Value.slice a55 k56 k57, Value.slice a58 k59 k60],
        Value.bool b61] ∧
        Q
        (Value.bool
        (bif (↑k13 : Int) == 4 then bif b61 then bif b46 then bif !b47 then b48 == false && (n49 == 0 && (n50 == 0 && n51 == 0)) else false else false else false else false))
        H45)) :
    Triple Go.Proofs.Try.prog 8 ([]).toArray H Q :=
  Triple.of_vc lawAlive.cx (by kernel_rfl) h

theorem lawMade.vc (n1 : Int) (n2 : Int) (n3 : Int) (n4 : Int) (n5 : Int) (n6 : Int) (n7 : Int) (s8 : ByteArray) (b9 : Bool) (b10 : Bool) (b11 : Bool) (n12 : Int) (n13 : Int) (n14 : Int) (H : PHeap) (Q : Value → PHeap → Prop)
    (h : ∀ (k15 : Nat),
  H k15 = none →
    (b9 = true →
        Triple Proofs.Try.prog 28
        #[Value.agg #[Value.int IntKind.i64 n1, Value.int IntKind.i64 n2, Value.int IntKind.i64 n3, Value.int IntKind.i64 n4, Value.int IntKind.i64 n5, Value.int IntKind.i64 n6],
        Value.int IntKind.i64 n7, Value.string s8, Value.agg #[Value.bool b11, Value.int IntKind.i64 n12, Value.int IntKind.i64 n13, Value.int IntKind.i64 n14], Value.bool b10]
        (H.upd k15
        (Obj.cells
        #[Value.int IntKind.i64 0, Value.int IntKind.i64 0, Value.int IntKind.i64 0, Value.int IntKind.i64 0, Value.int IntKind.i64 0, Value.int IntKind.i64 0, Value.int IntKind.i64 0,
        Value.string ({ data := #[] } : ByteArray), Value.bool false, Value.bool false, Value.int IntKind.i64 0, Value.int IntKind.i64 0, Value.slice none 0 0, Value.slice none 0 0, Value.slice none 0 0,
        Value.int IntKind.i64 0, Value.bool false, Value.bool false, Value.bool false, Value.int IntKind.i64 0, Value.int IntKind.i64 0, Value.int IntKind.i64 0, Value.slice none 0 0,
        Value.slice none 0 0, Value.slice none 0 0]
        51))
        fun v16 H17 =>
        ∃ a18 a19 k20 k21,
        v16 = Value.tuple #[Value.pointer a18, Value.slice a19 k20 k21] ∧
        Triple Proofs.Try.prog 29
        #[Value.agg #[Value.int IntKind.i64 n1, Value.int IntKind.i64 n2, Value.int IntKind.i64 n3, Value.int IntKind.i64 n4, Value.int IntKind.i64 n5, Value.int IntKind.i64 n6],
        Value.int IntKind.i64 n7, Value.string s8, Value.agg #[Value.bool b11, Value.int IntKind.i64 n12, Value.int IntKind.i64 n13, Value.int IntKind.i64 n14], Value.bool b10]
        H17 fun v22 H23 =>
        ∃ n24 n25 n26 n27 n28 n29 n30 s31 b32 b33 n34 n35 a36 k37 k38 a39 k40 k41 a42 k43 k44 n45 b46 b47 b48 n49 n50 n51 a52 k53 k54 a55 k56 k57 a58 k59 k60 a61 k62 k63,
        v22 =
        Value.tuple
        #[Value.agg
        #[Value.int IntKind.i64 n24, Value.int IntKind.i64 n25, Value.int IntKind.i64 n26, Value.int IntKind.i64 n27, Value.int IntKind.i64 n28, Value.int IntKind.i64 n29,
        Value.int IntKind.i64 n30, Value.string s31, Value.bool b32, Value.bool b33, Value.int IntKind.i64 n34, Value.int IntKind.i64 n35, Value.slice a36 k37 k38,
        Value.slice a39 k40 k41, Value.slice a42 k43 k44, Value.int IntKind.i64 n45, Value.bool b46, Value.bool b47, Value.bool b48, Value.int IntKind.i64 n49,
        Value.int IntKind.i64 n50, Value.int IntKind.i64 n51, Value.slice a52 k53 k54, Value.slice a55 k56 k57, Value.slice a58 k59 k60],
        Value.slice a61 k62 k63] ∧
        ∃ H64,
        Vx.Sub H64 H23 ∧
        ∃ H65,
        Writes H23 H65 (at0 k15)
        [Value.int IntKind.i64 n24, Value.int IntKind.i64 n25, Value.int IntKind.i64 n26, Value.int IntKind.i64 n27, Value.int IntKind.i64 n28, Value.int IntKind.i64 n29,
        Value.int IntKind.i64 n30, Value.string s31, Value.bool b32, Value.bool b33, Value.int IntKind.i64 n34, Value.int IntKind.i64 n35, Value.slice a36 k37 k38,
        Value.slice a39 k40 k41, Value.slice a42 k43 k44, Value.int IntKind.i64 n45, Value.bool b46, Value.bool b47, Value.bool b48, Value.int IntKind.i64 n49,
        Value.int IntKind.i64 n50, Value.int IntKind.i64 n51, Value.slice a52 k53 k54, Value.slice a55 k56 k57, Value.slice a58 k59 k60] ∧
        ∃ n66 n67 n68 n69 n70 n71 n72 s73 b74 b75 n76 n77 a78 k79 k80 a81 k82 k83 a84 k85 k86 n87 b88 b89 b90 n91 n92 n93 a94 k95 k96 a97 k98 k99 a100 k101 k102,
        Reads H65 (at0 k15)
        [Value.int IntKind.i64 n66, Value.int IntKind.i64 n67, Value.int IntKind.i64 n68, Value.int IntKind.i64 n69, Value.int IntKind.i64 n70, Value.int IntKind.i64 n71,
        Value.int IntKind.i64 n72, Value.string s73, Value.bool b74, Value.bool b75, Value.int IntKind.i64 n76, Value.int IntKind.i64 n77, Value.slice a78 k79 k80,
        Value.slice a81 k82 k83, Value.slice a84 k85 k86, Value.int IntKind.i64 n87, Value.bool b88, Value.bool b89, Value.bool b90, Value.int IntKind.i64 n91,
        Value.int IntKind.i64 n92, Value.int IntKind.i64 n93, Value.slice a94 k95 k96, Value.slice a97 k98 k99, Value.slice a100 k101 k102] ∧
        Q
        (Value.tuple
        #[Value.pointer a18,
        Value.agg
        #[Value.int IntKind.i64 n66, Value.int IntKind.i64 n67, Value.int IntKind.i64 n68, Value.int IntKind.i64 n69, Value.int IntKind.i64 n70,
        Value.int IntKind.i64 n71, Value.int IntKind.i64 n72, Value.string s73, Value.bool b74, Value.bool b75, Value.int IntKind.i64 n76, Value.int IntKind.i64 n77,
        Value.slice a78 k79 k80, Value.slice a81 k82 k83, Value.slice a84 k85 k86, Value.int IntKind.i64 n87, Value.bool b88, Value.bool b89, Value.bool b90,
        Value.int IntKind.i64 n91, Value.int IntKind.i64 n92, Value.int IntKind.i64 n93, Value.slice a94 k95 k96, Value.slice a97 k98 k99,
        Value.slice a100 k101 k102],
        Value.slice a19 k20 k21, Value.slice a61 k62 k63])
        H65) ∧
      (b9 = false →
        Triple Proofs.Try.prog 9
        #[Value.agg #[Value.int IntKind.i64 n1, Value.int IntKind.i64 n2, Value.int IntKind.i64 n3, Value.int IntKind.i64 n4, Value.int IntKind.i64 n5, Value.int IntKind.i64 n6],
        Value.int IntKind.i64 n7, Value.string s8, Value.bool b10]
        (H.upd k15
        (Obj.cells
        #[Value.int IntKind.i64 0, Value.int IntKind.i64 0, Value.int IntKind.i64 0, Value.int IntKind.i64 0, Value.int IntKind.i64 0, Value.int IntKind.i64 0, Value.int IntKind.i64 0,
        Value.string ({ data := #[] } : ByteArray), Value.bool false, Value.bool false, Value.int IntKind.i64 0, Value.int IntKind.i64 0, Value.slice none 0 0, Value.slice none 0 0, Value.slice none 0 0,
        Value.int IntKind.i64 0, Value.bool false, Value.bool false, Value.bool false, Value.int IntKind.i64 0, Value.int IntKind.i64 0, Value.int IntKind.i64 0, Value.slice none 0 0,
        Value.slice none 0 0, Value.slice none 0 0]
        51))
        fun v103 H104 =>
        ∃ a105 a106 k107 k108,
        v103 = Value.tuple #[Value.pointer a105, Value.slice a106 k107 k108] ∧
        Triple Proofs.Try.prog 30
        #[Value.agg #[Value.int IntKind.i64 n1, Value.int IntKind.i64 n2, Value.int IntKind.i64 n3, Value.int IntKind.i64 n4, Value.int IntKind.i64 n5, Value.int IntKind.i64 n6],
        Value.int IntKind.i64 n7, Value.string s8, Value.bool b10]
        H104 fun v109 H110 =>
        ∃ n111 n112 n113 n114 n115 n116 n117 s118 b119 b120 n121 n122 a123 k124 k125 a126 k127 k128 a129 k130 k131 n132 b133 b134 b135 n136 n137 n138 a139 k140 k141 a142 k143 k144 a145 k146
        k147 a148 k149 k150,
        v109 =
        Value.tuple
        #[Value.agg
        #[Value.int IntKind.i64 n111, Value.int IntKind.i64 n112, Value.int IntKind.i64 n113, Value.int IntKind.i64 n114, Value.int IntKind.i64 n115, Value.int IntKind.i64 n116,
        Value.int IntKind.i64 n117, Value.string s118, Value.bool b119, Value.bool b120, Value.int IntKind.i64 n121, Value.int IntKind.i64 n122, Value.slice a123 k124 k125,
        Value.slice a126 k127 k128, Value.slice a129 k130 k131, Value.int IntKind.i64 n132, Value.bool b133, Value.bool b134, Value.bool b135, Value.int IntKind.i64 n136,
        Value.int IntKind.i64 n137, Value.int IntKind.i64 n138, Value.slice a139 k140 k141, Value.slice a142 k143 k144, Value.slice a145 k146 k147],
        Value.slice a148 k149 k150] ∧
        ∃ H151,
        Vx.Sub H151 H110 ∧
        ∃ H152,
        Writes H110 H152 (at0 k15)
        [Value.int IntKind.i64 n111, Value.int IntKind.i64 n112, Value.int IntKind.i64 n113, Value.int IntKind.i64 n114, Value.int IntKind.i64 n115, Value.int IntKind.i64 n116,
        Value.int IntKind.i64 n117, Value.string s118, Value.bool b119, Value.bool b120, Value.int IntKind.i64 n121, Value.int IntKind.i64 n122, Value.slice a123 k124 k125,
        Value.slice a126 k127 k128, Value.slice a129 k130 k131, Value.int IntKind.i64 n132, Value.bool b133, Value.bool b134, Value.bool b135, Value.int IntKind.i64 n136,
        Value.int IntKind.i64 n137, Value.int IntKind.i64 n138, Value.slice a139 k140 k141, Value.slice a142 k143 k144, Value.slice a145 k146 k147] ∧
        ∃ n153 n154 n155 n156 n157 n158 n159 s160 b161 b162 n163 n164 a165 k166 k167 a168 k169 k170 a171 k172 k173 n174 b175 b176 b177 n178 n179 n180 a181 k182 k183 a184 k185 k186
        a187 k188 k189,
        Reads H152 (at0 k15)
        [Value.int IntKind.i64 n153, Value.int IntKind.i64 n154, Value.int IntKind.i64 n155, Value.int IntKind.i64 n156, Value.int IntKind.i64 n157,
        Value.int IntKind.i64 n158, Value.int IntKind.i64 n159, Value.string s160, Value.bool b161, Value.bool b162, Value.int IntKind.i64 n163, Value.int IntKind.i64 n164,
        Value.slice a165 k166 k167, Value.slice a168 k169 k170, Value.slice a171 k172 k173, Value.int IntKind.i64 n174, Value.bool b175, Value.bool b176, Value.bool b177,
        Value.int IntKind.i64 n178, Value.int IntKind.i64 n179, Value.int IntKind.i64 n180, Value.slice a181 k182 k183, Value.slice a184 k185 k186,
        Value.slice a187 k188 k189] ∧
        Q
        (Value.tuple
        #[Value.pointer a105,
        Value.agg
        #[Value.int IntKind.i64 n153, Value.int IntKind.i64 n154, Value.int IntKind.i64 n155, Value.int IntKind.i64 n156, Value.int IntKind.i64 n157,
        Value.int IntKind.i64 n158, Value.int IntKind.i64 n159, Value.string s160, Value.bool b161, Value.bool b162, Value.int IntKind.i64 n163,
        Value.int IntKind.i64 n164, Value.slice a165 k166 k167, Value.slice a168 k169 k170, Value.slice a171 k172 k173, Value.int IntKind.i64 n174, Value.bool b175,
        Value.bool b176, Value.bool b177, Value.int IntKind.i64 n178, Value.int IntKind.i64 n179, Value.int IntKind.i64 n180, Value.slice a181 k182 k183,
        Value.slice a184 k185 k186, Value.slice a187 k188 k189],
        Value.slice a106 k107 k108, Value.slice a148 k149 k150])
        H152)) :
    Triple Go.Proofs.Try.prog 13 ([Value.agg #[Value.int IntKind.i64 n1, Value.int IntKind.i64 n2, Value.int IntKind.i64 n3, Value.int IntKind.i64 n4, Value.int IntKind.i64 n5, Value.int IntKind.i64 n6],
  Value.agg #[Value.int IntKind.i64 n7, Value.string s8, Value.bool b9, Value.bool b10, Value.bool b11, Value.int IntKind.i64 n12, Value.int IntKind.i64 n13, Value.int IntKind.i64 n14]]).toArray H Q :=
  Triple.of_vc lawMade.cx (by kernel_rfl) h

theorem l8Some.vc (H : PHeap) (Q : Value → PHeap → Prop)
    (h : Q (Value.agg #[Value.int IntKind.i64 4, Value.int IntKind.i64 1, Value.int IntKind.i64 2, Value.int IntKind.i64 3, Value.int IntKind.i64 16, Value.int IntKind.i64 3]) H) :
    Triple Go.Proofs.Try.prog 19 ([]).toArray H Q :=
  Triple.of_vc l8Some.cx (by kernel_rfl) h

end Go.Vc
