/- What is to be shown of each function, in its normal form. Printed by a program of this session's, checked by the kernel. -/
import Derived.Test.YtcdgeeakfoofpabVxN
import Derived.Test.YtcdgeeakfoofpabProg
set_option linter.unusedVariables false
set_option maxRecDepth 100000
namespace Go.Vc
open Go.Vx Go
def lawGOwn.cx : Cx := ⟨[5], [], [], []⟩
def aliveG.cx : Cx := ⟨[1], [], [], []⟩

theorem lawGOwn.vc (a1 : Option Addr) (k2 : Nat) (k3 : Nat) (a4 : Option Addr) (k5 : Nat) (k6 : Nat) (H : PHeap) (Q : Value → PHeap → Prop)
    (h : ((bif decide ((↑k2 : Int) > 200) then true else bif decide ((↑k5 : Int) > 20) then true else (↑k2 : Int) == 0) = true →
    Triple Proofs.Try.prog 5 #[] H fun v7 H8 => ∃ b9, v7 = Value.bool b9 ∧ Q (Value.bool b9) H8) ∧
  ((bif decide ((↑k2 : Int) > 200) then true else bif decide ((↑k5 : Int) > 20) then true else (↑k2 : Int) == 0) = false →
    ∀ (k10 : Nat),
      H k10 = none →
        ∀ (k11 : Nat),
        H.upd k10 (Obj.cells #[Value.bool false, Value.slice none 0 0, Value.map none] 27) k11 = none →
        EvV Proofs.Try.prog (Builtin.append_ #[32, 32] 32 #[Value.slice (at0 k11) 0 0, Value.slice a1 k2 k3])
        ((H.upd k10 (Obj.cells #[Value.bool false, Value.slice none 0 0, Value.map none] 27)).upd k11 (Obj.cells #[] 5)) fun v12 H13 =>
        ∃ a14 k15 k16,
        v12 = Value.slice a14 k15 k16 ∧
        ∀ (k17 : Nat),
        H13 k17 = none →
        EvV Proofs.Try.prog (Builtin.append_ #[24, 24] 24 #[Value.slice (at0 k17) 1 1, Value.slice a4 k5 k6])
        (H13.upd k17 (Obj.cells #[Value.int IntKind.i64 4] 3)) fun v18 H19 =>
        ∃ a20 k21 k22,
        v18 = Value.slice a20 k21 k22 ∧
        Triple Proofs.Try.prog 6 #[Value.pointer (at0 k10), Value.int IntKind.i64 4, Value.slice a14 k15 k16] H19 fun v23 H24 =>
        ∃ b25,
        v23 = Value.bool b25 ∧
        Ob (a14 ≠ none ∧ (0 : Int) ≤ 0 ∧ 0 < (↑k15 : Int)) ∧
        ∃ n26,
        Reads H24 (elemA a14 0 1) [Value.int IntKind.u8 n26] ∧
        Ob (a14 ≠ none ∧ (0 : Int) ≤ 0 ∧ 0 < (↑k15 : Int)) ∧
        ∃ H27,
        Writes H24 H27 (elemA a14 0 1) [Value.int IntKind.u8 (IntKind.u8.wrap (n26 + 1))] ∧
        Ob ((0 : Int) ≤ 0 ∧ (0 : Int) ≤ 1 ∧ 1 ≤ (↑k22 : Int)) ∧
        Triple Proofs.Try.prog 8
        #[Value.pointer (at0 k10), Value.slice (slA a20 0 k22 1) (Int.toNat 1 - Int.toNat 0) (k22 - Int.toNat 0)] H27 fun v28 H29 =>
        ∃ b30,
        v28 = Value.bool b30 ∧
        Ob (a20 ≠ none ∧ (0 : Int) ≤ 0 ∧ 0 < (↑k21 : Int)) ∧
        ∃ H31,
        Writes H29 H31 (elemA a20 0 1) [Value.int IntKind.i64 9] ∧
        Triple Proofs.Try.prog 11 #[Value.pointer (at0 k10)] H31 fun v32 H33 =>
        ∃ a34 k35 k36 a37 k38 k39 b40,
        v32 = Value.tuple #[Value.slice a34 k35 k36, Value.slice a37 k38 k39, Value.bool b40] ∧
        ((!b40) = false →
        (((↑k38 : Int) != 1) = false →
        Ob (a37 ≠ none ∧ (0 : Int) ≤ 0 ∧ 0 < (↑k38 : Int)) ∧
        ∃ a41 k42 k43,
        Reads H33 (elemA a37 0 1) [Value.slice a41 k42 k43] ∧
        Triple Proofs.Try.prog 16 #[Value.slice a41 k42 k43, Value.slice a1 k2 k3] H33 fun v44 H45 =>
        ∃ b46,
        v44 = Value.bool b46 ∧
        ((!b46) = true → Q (Value.bool false) H45) ∧
        ((!b46) = false →
        Ob (a37 ≠ none ∧ (0 : Int) ≤ 0 ∧ 0 < (↑k38 : Int)) ∧
        ∃ a47 k48 k49,
        Reads H45 (elemA a37 0 1) [Value.slice a47 k48 k49] ∧
        Ob (a47 ≠ none ∧ (0 : Int) ≤ 0 ∧ 0 < (↑k48 : Int)) ∧
        ∃ n50,
        Reads H45 (elemA a47 0 1) [Value.int IntKind.u8 n50] ∧
        Ob (a47 ≠ none ∧ (0 : Int) ≤ 0 ∧ 0 < (↑k48 : Int)) ∧
        ∃ H51,
        Writes H45 H51 (elemA a47 0 1) [Value.int IntKind.u8 (IntKind.u8.wrap (n50 + 1))] ∧
        Triple Proofs.Try.prog 11 #[Value.pointer (at0 k10)] H51
        fun v52 H53 =>
        ∃ a54 k55 k56 a57 k58 k59 b60,
        v52 = Value.tuple #[Value.slice a54 k55 k56, Value.slice a57 k58 k59, Value.bool b60] ∧
        Triple Proofs.Try.prog 10 #[Value.pointer none] H53 fun v61 H62 =>
        v61 = Value.tuple #[] ∧
        Triple Proofs.Try.prog 11 #[Value.pointer none] H62 fun v63 H64 =>
        ∃ a65 k66 k67 a68 k69 k70 b71,
        v63 =
        Value.tuple
        #[Value.slice a65 k66 k67, Value.slice a68 k69 k70, Value.bool b71] ∧
        (((↑k58 : Int) == 1) = true →
        Ob (a57 ≠ none ∧ (0 : Int) ≤ 0 ∧ 0 < (↑k58 : Int)) ∧
        ∃ a72 k73 k74,
        Reads H64 (elemA a57 0 1) [Value.slice a72 k73 k74] ∧
        Triple Proofs.Try.prog 16
        #[Value.slice a72 k73 k74, Value.slice a1 k2 k3] H64
        fun v75 H76 =>
        ∃ b77,
        v75 = Value.bool b77 ∧
        (b77 = true →
        Triple Proofs.Try.prog 6
        #[Value.pointer none, Value.int IntKind.i64 1,
        Value.slice a1 k2 k3]
        H76 fun v78 H79 =>
        ∃ b80,
        v78 = Value.bool b80 ∧
        ((!b80) = true →
        Triple Proofs.Try.prog 8
        #[Value.pointer none, Value.slice a4 k5 k6]
        H79 fun v81 H82 =>
        ∃ b83,
        v81 = Value.bool b83 ∧
        ((!b83) = true →
        Triple Proofs.Try.prog 15
        #[Value.pointer none] H82
        fun v84 H85 =>
        ∃ b86,
        v84 = Value.bool b86 ∧
        ((!b86) = true →
        ((!b71) = true →
        Triple Proofs.Try.prog
        17
        #[Value.pointer
        none]
        H85 fun v87 H88 =>
        ∃ a89 k90 k91,
        v87 =
        Value.slice
        a89 k90
        k91 ∧
        (((↑k90 :
        Int) ==
        0) =
        true →
        Triple
        Proofs.Try.prog
        5 #[] H88
        fun v92
        H93 =>
        ∃ b94,
        v92 =
        Value.bool
        b94 ∧
        Q
        (Value.bool
        b94)
        H93) ∧
        (((↑k90 :
        Int) ==
        0) =
        !true →
        Q
        (Value.bool
        false)
        H88)) ∧
        ((!b71) = !true →
        Q (Value.bool false)
        H85)) ∧
        ((!b86) = !true →
        Q (Value.bool false)
        H85)) ∧
        ((!b83) = !true →
        Q (Value.bool false) H82)) ∧
        ((!b80) = !true → Q (Value.bool false) H79)) ∧
        (b77 = !true → Q (Value.bool false) H76)) ∧
        (((↑k58 : Int) == 1) = !true → Q (Value.bool false) H64))) ∧
        (((↑k38 : Int) != 1) = !false → Q (Value.bool false) H33)) ∧
        ((!b40) = !false → Q (Value.bool false) H33))) :
    Triple Go.Proofs.Try.prog 4 ([Value.slice a1 k2 k3, Value.slice a4 k5 k6]).toArray H Q :=
  Triple.of_vc lawGOwn.cx (by kernel_rfl) h

theorem aliveG.vc (H : PHeap) (Q : Value → PHeap → Prop)
    (h : ∀ (k1 : Nat),
  H k1 = none →
    ∀ (k2 : Nat),
      H.upd k1 (Obj.cells #[Value.bool false, Value.slice none 0 0, Value.map none] 27) k2 = none →
        Triple Proofs.Try.prog 6 #[Value.pointer (at0 k1), Value.int IntKind.i64 2, Value.slice (at0 k2) 1 1]
        ((H.upd k1 (Obj.cells #[Value.bool false, Value.slice none 0 0, Value.map none] 27)).upd k2 (Obj.cells #[Value.int IntKind.u8 5] 5)) fun v3 H4 =>
        ∃ b5,
        v3 = Value.bool b5 ∧
        ∀ (k6 : Nat),
        H4 k6 = none →
        Triple Proofs.Try.prog 6 #[Value.pointer (at0 k1), Value.int IntKind.i64 3, Value.slice (at0 k6) 1 1]
        (H4.upd k6 (Obj.cells #[Value.int IntKind.u8 6] 5)) fun v7 H8 =>
        ∃ b9,
        v7 = Value.bool b9 ∧
        Triple Proofs.Try.prog 11 #[Value.pointer (at0 k1)] H8 fun v10 H11 =>
        ∃ a12 k13 k14 a15 k16 k17 b18,
        v10 = Value.tuple #[Value.slice a12 k13 k14, Value.slice a15 k16 k17, Value.bool b18] ∧
        ∀ (k19 : Nat),
        H11 k19 = none →
        Triple Proofs.Try.prog 8 #[Value.pointer (at0 k1), Value.slice (at0 k19) 2 2]
        (H11.upd k19 (Obj.cells #[Value.int IntKind.i64 3, Value.int IntKind.i64 2] 3)) fun v20 H21 =>
        ∃ b22,
        v20 = Value.bool b22 ∧
        Triple Proofs.Try.prog 11 #[Value.pointer (at0 k1)] H21 fun v23 H24 =>
        ∃ a25 k26 k27 a28 k29 k30 b31,
        v23 = Value.tuple #[Value.slice a25 k26 k27, Value.slice a28 k29 k30, Value.bool b31] ∧
        (b5 = true →
        (b9 = true →
        ((!b18) = true →
        (b22 = true →
        (b31 = true →
        ∀ (k32 : Nat),
        H24 k32 = none →
        Triple Proofs.Try.prog 14 #[Value.slice a25 k26 k27, Value.slice (at0 k32) 2 2]
        (H24.upd k32 (Obj.cells #[Value.int IntKind.i64 3, Value.int IntKind.i64 2] 3)) fun v33 H34 =>
        ∃ b35,
        v33 = Value.bool b35 ∧
        (b35 = true →
        ∀ (k36 : Nat),
        H34 k36 = none →
        ∀ (k37 : Nat),
        H34.upd k36 (Obj.cells #[Value.int IntKind.u8 6] 5) k37 = none →
        ∀ (k38 : Nat),
        (H34.upd k36 (Obj.cells #[Value.int IntKind.u8 6] 5)).upd k37 (Obj.cells #[Value.int IntKind.u8 5] 5) k38 =
        none →
        Triple Proofs.Try.prog 13 #[Value.slice a28 k29 k30, Value.slice (at0 k38) 2 2]
        (((H34.upd k36 (Obj.cells #[Value.int IntKind.u8 6] 5)).upd k37
        (Obj.cells #[Value.int IntKind.u8 5] 5)).upd
        k38
        (Obj.cells
        #[Value.slice (at0 k36) 1 1,
        Value.slice (at0 k37) 1 1]
        32))
        fun v39 H40 => ∃ b41, v39 = Value.bool b41 ∧ Q (Value.bool b41) H40) ∧
        (b35 = !true → Q (Value.bool false) H34)) ∧
        (b31 = !true → Q (Value.bool false) H24)) ∧
        (b22 = !true → Q (Value.bool false) H24)) ∧
        ((!b18) = !true → Q (Value.bool false) H24)) ∧
        (b9 = !true → Q (Value.bool false) H24)) ∧
        (b5 = !true → Q (Value.bool false) H24)) :
    Triple Go.Proofs.Try.prog 5 ([]).toArray H Q :=
  Triple.of_vc aliveG.cx (by kernel_rfl) h

end Go.Vc
