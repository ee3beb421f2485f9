/- What is to be shown of each function, in its normal form. Printed by a program of this session's, checked by the kernel. -/
import Derived.Test.YtllbdocjgdnofaaVxN
import Derived.Test.YtllbdocjgdnofaaProg
set_option linter.unusedVariables false
set_option maxRecDepth 100000
namespace Go.Vc
open Go.Vx Go
def lawPAll.cx : Cx := ⟨[13], [(6, [5, 6, 26], []), (12, [5, 43], []), (23, [67], []), (26, [14, 71], [])], [], []⟩
def alivePg.cx : Cx := ⟨[1], [], [], []⟩

theorem lawPAll.vc (a1 : Option Addr) (k2 : Nat) (k3 : Nat) (n4 : Int) (H : PHeap) (Q : Value → PHeap → Prop)
    (h : (decide ((↑k2 : Int) > 8) = true → Triple Proofs.Try.prog 5 #[] H fun v5 H6 => ∃ b7, v5 = Value.bool b7 ∧ Q (Value.bool b7) H6) ∧
  (decide ((↑k2 : Int) > 8) = false →
    ∃ (R8 : Rl) (M9 : Mu),
      R8 [Value.slice none 0 0, Value.slice none 0 0, Value.int IntKind.i64 0] H ∧
        ∀ (a10 : Option Addr) (k11 k12 : Nat) (a13 : Option Addr) (k14 k15 : Nat) (n16 : Int) (H17 : PHeap),
        R8 [Value.slice a10 k11 k12, Value.slice a13 k14 k15, Value.int IntKind.i64 n16] H17 →
        (decide (n16 < (↑k2 : Int)) = true →
        Ob (a1 ≠ none ∧ 0 ≤ n16 ∧ n16 < (↑k2 : Int)) ∧
        ∃ a18 k19 k20,
        Reads H17 (elemA a1 n16 1) [Value.slice a18 k19 k20] ∧
        (decide ((↑k19 : Int) > 40) = false →
        Triple Proofs.Try.prog 6 #[Value.slice a18 k19 k20] H17 fun v21 H22 =>
        ∃ b23,
        v21 = Value.bool b23 ∧
        (b23 = true → Triple Proofs.Try.prog 5 #[] H22 fun v24 H25 => ∃ b26, v24 = Value.bool b26 ∧ Q (Value.bool b26) H25) ∧
        (b23 = false →
        ∀ (k27 : Nat),
        H22 k27 = none →
        Triple Proofs.Try.prog 7 #[Value.slice (at0 k27) 1 1] (H22.upd k27 (Obj.cells #[Value.slice a18 k19 k20] 24)) fun v28 H29 =>
        ∃ a30 k31 k32,
        v28 = Value.slice a30 k31 k32 ∧
        ∃ (R33 : Rl) (M34 : Mu),
        R33 [Value.slice a10 k11 k12, Value.int IntKind.i64 0] H29 ∧
        ∀ (a35 : Option Addr) (k36 k37 : Nat) (n38 : Int) (H39 : PHeap),
        R33 [Value.slice a35 k36 k37, Value.int IntKind.i64 n38] H39 →
        (decide (n38 < (↑k31 : Int)) = true →
        Ob (a30 ≠ none ∧ 0 ≤ n38 ∧ n38 < (↑k31 : Int)) ∧
        ∃ s40,
        Reads H39 (elemA a30 n38 1) [Value.string s40] ∧
        Triple Proofs.Try.prog 8 #[Value.string s40] H39 fun v41 H42 =>
        ∃ b43,
        v41 = Value.bool b43 ∧
        ((!b43) = true → Triple Proofs.Try.prog 5 #[] H42 fun v44 H45 => ∃ b46, v44 = Value.bool b46 ∧ Q (Value.bool b46) H45) ∧
        ((!b43) = false →
        Triple Proofs.Try.prog 9 #[Value.slice a35 k36 k37, Value.string s40] H42 fun v47 H48 =>
        ∃ a49 k50 k51,
        v47 = Value.slice a49 k50 k51 ∧
        R33 [Value.slice a49 k50 k51, Value.int IntKind.i64 (IntKind.i64.wrap (n38 + 1))] H48 ∧
        Less (M34 [Value.slice a49 k50 k51, Value.int IntKind.i64 (IntKind.i64.wrap (n38 + 1))] H48)
        (M34 [Value.slice a35 k36 k37, Value.int IntKind.i64 n38] H39))) ∧
        (decide (n38 < (↑k31 : Int)) = false →
        ∀ (k52 : Nat),
        H39 k52 = none →
        EvV Proofs.Try.prog (Builtin.append_ #[22, 22] 22 #[Value.slice a13 k14 k15, Value.slice (at0 k52) 1 1])
        (H39.upd k52 (Obj.cells #[Value.slice a30 k31 k32] 24)) fun v53 H54 =>
        ∃ a55 k56 k57,
        v53 = Value.slice a55 k56 k57 ∧
        R8 [Value.slice a35 k36 k37, Value.slice a55 k56 k57, Value.int IntKind.i64 (IntKind.i64.wrap (n16 + 1))] H54 ∧
        Less (M9 [Value.slice a35 k36 k37, Value.slice a55 k56 k57, Value.int IntKind.i64 (IntKind.i64.wrap (n16 + 1))] H54)
        (M9 [Value.slice a10 k11 k12, Value.slice a13 k14 k15, Value.int IntKind.i64 n16] H17)))) ∧
        (decide ((↑k19 : Int) > 40) = !false → Triple Proofs.Try.prog 5 #[] H17 fun v58 H59 => ∃ b60, v58 = Value.bool b60 ∧ Q (Value.bool b60) H59)) ∧
        (decide (n16 < (↑k2 : Int)) = false →
        Ob ((8 : Int) ≠ 0) ∧
        ∀ (k61 : Nat),
        H17 k61 = none →
        ∃ (R62 : Rl) (M63 : Mu),
        R62 [Value.int IntKind.i64 0] (H17.upd k61 (Obj.cells #[Value.slice none 0 0, Value.string { data := #[] }, Value.slice none 0 0] 31)) ∧
        ∀ (n64 : Int) (H65 : PHeap),
        R62 [Value.int IntKind.i64 n64] H65 →
        (decide (n64 < IntKind.i64.wrap ((↑k11 : Int) + 1)) = true →
        ∃ (R66 : Rl) (M67 : Mu),
        R66 [Value.slice none 0 0, Value.int IntKind.i64 0] H65 ∧
        ∀ (a68 : Option Addr) (k69 k70 : Nat) (n71 : Int) (H72 : PHeap),
        R66 [Value.slice a68 k69 k70, Value.int IntKind.i64 n71] H72 →
        (decide (n71 < (↑k14 : Int)) = true →
        Ob (a13 ≠ none ∧ 0 ≤ n71 ∧ n71 < (↑k14 : Int)) ∧
        ∃ a73 k74 k75,
        Reads H72 (elemA a13 n71 1) [Value.slice a73 k74 k75] ∧
        Triple Proofs.Try.prog 11 #[Value.pointer (at0 k61)] H72 fun v76 H77 =>
        ∃ s78,
        v76 = Value.string s78 ∧
        Triple Proofs.Try.prog 10
        #[Value.slice a73 k74 k75, Value.string s78, Value.int IntKind.i64 (IntKind.i64.wrap (1 + IntKind.i64.wrap (n4.tmod 8)))] H77 fun v79 H80 =>
        ∃ a81 k82 k83 b84,
        v79 = Value.tuple #[Value.slice a81 k82 k83, Value.bool b84] ∧
        ∀ (k85 : Nat),
        H80 k85 = none →
        (b84 = true →
        ∀ (k86 : Nat),
        H80.upd k85 (Obj.cells #[Value.int IntKind.i64 1] 3) k86 = none →
        EvV Proofs.Try.prog
        (Builtin.append_ #[32, 32] 32 #[Value.slice a68 k69 k70, Value.slice (at0 k86) 1 1])
        ((H80.upd k85 (Obj.cells #[Value.int IntKind.i64 1] 3)).upd k86
        (Obj.cells
        #[Value.int IntKind.i64 20, Value.int IntKind.i64 (IntKind.i64.wrap (n71 + 1)), Value.int IntKind.i64 0,
        Value.int IntKind.i64 0, Value.string { data := #[] }, Value.int IntKind.i64 0, Value.int IntKind.i64 0,
        Value.int IntKind.i64 0, Value.int IntKind.i64 0, Value.int IntKind.i64 1,
        Value.slice (at0 k85) 1 1, Value.slice a81 k82 k83, Value.slice none 0 0]
        38))
        fun v87 H88 =>
        ∃ a89 k90 k91,
        v87 = Value.slice a89 k90 k91 ∧
        R66 [Value.slice a89 k90 k91, Value.int IntKind.i64 (IntKind.i64.wrap (n71 + 1))] H88 ∧
        Less (M67 [Value.slice a89 k90 k91, Value.int IntKind.i64 (IntKind.i64.wrap (n71 + 1))] H88)
        (M67 [Value.slice a68 k69 k70, Value.int IntKind.i64 n71] H72)) ∧
        (b84 = false →
        ∀ (k92 : Nat),
        H80.upd k85 (Obj.cells #[Value.int IntKind.i64 1] 3) k92 = none →
        EvV Proofs.Try.prog
        (Builtin.append_ #[32, 32] 32 #[Value.slice a68 k69 k70, Value.slice (at0 k92) 1 1])
        ((H80.upd k85 (Obj.cells #[Value.int IntKind.i64 1] 3)).upd k92
        (Obj.cells
        #[Value.int IntKind.i64 20, Value.int IntKind.i64 (IntKind.i64.wrap (n71 + 1)), Value.int IntKind.i64 0,
        Value.int IntKind.i64 0, Value.string { data := #[] }, Value.int IntKind.i64 0, Value.int IntKind.i64 0,
        Value.int IntKind.i64 0, Value.int IntKind.i64 0, Value.int IntKind.i64 0,
        Value.slice (at0 k85) 1 1, Value.slice a81 k82 k83, Value.slice none 0 0]
        38))
        fun v93 H94 =>
        ∃ a95 k96 k97,
        v93 = Value.slice a95 k96 k97 ∧
        R66 [Value.slice a95 k96 k97, Value.int IntKind.i64 (IntKind.i64.wrap (n71 + 1))] H94 ∧
        Less (M67 [Value.slice a95 k96 k97, Value.int IntKind.i64 (IntKind.i64.wrap (n71 + 1))] H94)
        (M67 [Value.slice a68 k69 k70, Value.int IntKind.i64 n71] H72))) ∧
        (decide (n71 < (↑k14 : Int)) = false →
        Triple Proofs.Try.prog 12 #[Value.pointer (at0 k61), Value.slice a68 k69 k70] H72 fun v98 H99 =>
        ∃ b100,
        v98 = Value.bool b100 ∧
        (b100 = true →
        Triple Proofs.Try.prog 14 #[Value.pointer (at0 k61)] H99 fun v101 H102 =>
        ∃ a103 k104 k105,
        v101 = Value.slice a103 k104 k105 ∧
        Triple Proofs.Try.prog 13 #[Value.slice a103 k104 k105, Value.slice a10 k11 k12] H102 fun v106 H107 =>
        ∃ b108,
        v106 = Value.bool b108 ∧
        (b108 = true → Triple Proofs.Try.prog 5 #[] H107 fun v109 H110 => ∃ b111, v109 = Value.bool b111 ∧ Q (Value.bool b111) H110) ∧
        (b108 = !true → Q (Value.bool false) H107)) ∧
        (b100 = false →
        R62 [Value.int IntKind.i64 (IntKind.i64.wrap (n64 + 1))] H99 ∧
        Less (M63 [Value.int IntKind.i64 (IntKind.i64.wrap (n64 + 1))] H99) (M63 [Value.int IntKind.i64 n64] H65)))) ∧
        (decide (n64 < IntKind.i64.wrap ((↑k11 : Int) + 1)) = false → Q (Value.bool false) H65)))) :
    Triple Go.Proofs.Try.prog 3 ([Value.slice a1 k2 k3, Value.int IntKind.u8 n4]).toArray H Q :=
  Triple.of_vc lawPAll.cx (by kernel_rfl) h

theorem alivePg.vc (H : PHeap) (Q : Value → PHeap → Prop)
    (h : ∀ (k1 : Nat),
  H k1 = none →
    ∀ (k2 : Nat),
      H.upd k1 (Obj.cells #[Value.slice none 0 0, Value.string { data := #[] }, Value.slice none 0 0] 31) k2 = none →
        ∀ (k3 : Nat),
        (H.upd k1 (Obj.cells #[Value.slice none 0 0, Value.string { data := #[] }, Value.slice none 0 0] 31)).upd k2 (Obj.cells #[Value.string { data := #[97] }, Value.string { data := #[99] }] 9)
        k3 =
        none →
        ∀ (k4 : Nat),
        ((H.upd k1 (Obj.cells #[Value.slice none 0 0, Value.string { data := #[] }, Value.slice none 0 0] 31)).upd k2
        (Obj.cells #[Value.string { data := #[97] }, Value.string { data := #[99] }] 9)).upd
        k3 (Obj.cells #[Value.string { data := #[98] }, Value.string { data := #[100] }] 9) k4 =
        none →
        Triple Proofs.Try.prog 12 #[Value.pointer (at0 k1), Value.slice (at0 k4) 2 2]
        ((((H.upd k1 (Obj.cells #[Value.slice none 0 0, Value.string { data := #[] }, Value.slice none 0 0] 31)).upd k2
        (Obj.cells #[Value.string { data := #[97] }, Value.string { data := #[99] }] 9)).upd
        k3 (Obj.cells #[Value.string { data := #[98] }, Value.string { data := #[100] }] 9)).upd
        k4
        (Obj.cells
        #[Value.int IntKind.i64 20, Value.int IntKind.i64 0, Value.int IntKind.i64 0, Value.int IntKind.i64 0, Value.string { data := #[] }, Value.int IntKind.i64 0,
        Value.int IntKind.i64 0, Value.int IntKind.i64 0, Value.int IntKind.i64 0, Value.int IntKind.i64 0, Value.slice none 0 0, Value.slice (at0 k2) 2 2,
        Value.slice none 0 0, Value.int IntKind.i64 20, Value.int IntKind.i64 0, Value.int IntKind.i64 0, Value.int IntKind.i64 0, Value.string { data := #[] },
        Value.int IntKind.i64 0, Value.int IntKind.i64 0, Value.int IntKind.i64 0, Value.int IntKind.i64 0, Value.int IntKind.i64 1, Value.slice none 0 0,
        Value.slice (at0 k3) 2 2, Value.slice none 0 0]
        38))
        fun v5 H6 =>
        ∃ b7,
        v5 = Value.bool b7 ∧
        ((!b7) = true →
        Triple Proofs.Try.prog 11 #[Value.pointer (at0 k1)] H6 fun v8 H9 =>
        ∃ s10,
        v8 = Value.string s10 ∧
        (eqS s10 { data := #[99] } = true →
        Triple Proofs.Try.prog 14 #[Value.pointer (at0 k1)] H9 fun v11 H12 =>
        ∃ a13 k14 k15,
        v11 = Value.slice a13 k14 k15 ∧
        ∀ (k16 : Nat),
        H12 k16 = none →
        Triple Proofs.Try.prog 13 #[Value.slice a13 k14 k15, Value.slice (at0 k16) 3 3]
        (H12.upd k16 (Obj.cells #[Value.string { data := #[97] }, Value.string { data := #[98] }, Value.string { data := #[99] }] 9)) fun v17 H18 =>
        ∃ b19, v17 = Value.bool b19 ∧ Q (Value.bool b19) H18) ∧
        (eqS s10 { data := #[99] } = !true → Q (Value.bool false) H9)) ∧
        ((!b7) = !true → Q (Value.bool false) H6)) :
    Triple Go.Proofs.Try.prog 5 ([]).toArray H Q :=
  Triple.of_vc alivePg.cx (by kernel_rfl) h

end Go.Vc
