/- What is to be shown of each function, in its normal form. Printed by a program of this session's, checked by the kernel. -/
import Derived.Test.YtnecdiohiojfpaaVxN
import Derived.Test.YtnecdiohiojfpaaProg
set_option linter.unusedVariables false
set_option maxRecDepth 100000
namespace Go.Vc
open Go.Vx Go
def putL.cx : Cx := ⟨[], [], [], []⟩
def getL.cx : Cx := ⟨[], [], [], []⟩
def getL1.cx : Cx := ⟨[], [], [], []⟩
def contB.cx : Cx := ⟨[], [], [], []⟩
def idxB.cx : Cx := ⟨[], [(2, [8], [])], [], []⟩
def refPutL.cx : Cx := ⟨[], [(5, [4], [])], [], []⟩
def refGetL.cx : Cx := ⟨[], [(5, [5], [])], [], []⟩
def sameB.cx : Cx := ⟨[], [(4, [5], [])], [], []⟩
def lawBack.cx : Cx := ⟨[5], [], [], []⟩

theorem putL.vc (a1 : Option Addr) (s2 : ByteArray) (H : PHeap) (Q : Value → PHeap → Prop)
    (h : Triple Proofs.Try.prog 7 #[Value.string s2] H fun v3 H4 =>
  ∃ b5,
    v3 = Value.bool b5 ∧
      Triple Proofs.Try.prog 29 #[Value.pointer a1, Value.int IntKind.i64 1, Value.int IntKind.i64 (↑(bif !b5 then { data := #[] } else s2).size : Int)] H4 fun v6 H7 =>
        v6 = Value.tuple #[] ∧
        EvV Proofs.Try.prog (convert 9 34 (Value.string (bif !b5 then { data := #[] } else s2))) H7 fun v8 H9 =>
        ∃ a10 k11 k12,
        v8 = Value.slice a10 k11 k12 ∧
        Triple Proofs.Try.prog 30 #[Value.pointer a1, Value.slice a10 k11 k12] H9 fun v13 H14 =>
        v13 = Value.tuple #[] ∧
        EvV Proofs.Try.prog
        (Instr.makeSlice 34 (Value.int IntKind.i64 (IntKind.i64.wrap (16 - (↑(bif !b5 then { data := #[] } else s2).size : Int))))
        (Value.int IntKind.i64 (IntKind.i64.wrap (16 - (↑(bif !b5 then { data := #[] } else s2).size : Int)))))
        H14 fun v15 H16 =>
        ∃ a17 k18 k19,
        v15 = Value.slice a17 k18 k19 ∧ Triple Proofs.Try.prog 30 #[Value.pointer a1, Value.slice a17 k18 k19] H16 fun v20 H21 => v20 = Value.tuple #[] ∧ Q (Value.tuple #[]) H21) :
    Triple Go.Proofs.Try.prog 17 ([Value.pointer a1, Value.string s2]).toArray H Q :=
  Triple.of_vc putL.cx (by kernel_rfl) h

theorem getL.vc (a1 : Option Addr) (H : PHeap) (Q : Value → PHeap → Prop)
    (h : Triple Proofs.Try.prog 31 #[Value.pointer a1, Value.int IntKind.i64 1] H fun v2 H3 =>
  ∃ n4,
    v2 = Value.int IntKind.i64 n4 ∧
      Triple Proofs.Try.prog 32 #[Value.pointer a1, Value.int IntKind.i64 16] H3 fun v5 H6 =>
        ∃ a7 k8 k9,
        v5 = Value.slice a7 k8 k9 ∧
        Triple Proofs.Try.prog 33 #[Value.pointer a1] H6 fun v10 H11 =>
        ∃ b12,
        v10 = Value.bool b12 ∧
        ((bif !b12 then true else decide (n4 > (↑k8 : Int))) = true → Q (Value.tuple #[Value.string { data := #[] }, Value.bool false]) H11) ∧
        ((bif !b12 then true else decide (n4 > (↑k8 : Int))) = false →
        Ob ((0 : Int) ≤ 0 ∧ 0 ≤ n4 ∧ n4 ≤ (↑k9 : Int)) ∧
        EvV Proofs.Try.prog (convert 34 9 (Value.slice (slA a7 0 k9 1) (n4.toNat - Int.toNat 0) (k9 - Int.toNat 0))) H11 fun v13 H14 =>
        ∃ s15,
        v13 = Value.string s15 ∧
        Ob (0 ≤ n4 ∧ n4 ≤ (↑k8 : Int) ∧ (↑k8 : Int) ≤ (↑k9 : Int)) ∧
        Triple Proofs.Try.prog 34 #[Value.slice (slA a7 n4 k9 1) ((↑k8 : Int).toNat - n4.toNat) (k9 - n4.toNat), Value.func (Fn.func 35) #[] #[]] H14 fun v16 H17 =>
        ∃ b18,
        v16 = Value.bool b18 ∧
        (b18 = false →
        Triple Proofs.Try.prog 7 #[Value.string s15] H17 fun v19 H20 =>
        ∃ b21,
        v19 = Value.bool b21 ∧
        ((!b21) = true → Q (Value.tuple #[Value.string { data := #[] }, Value.bool false]) H20) ∧
        ((!b21) = false → Q (Value.tuple #[Value.string s15, Value.bool true]) H20)) ∧
        (b18 = !false → Q (Value.tuple #[Value.string { data := #[] }, Value.bool false]) H17))) :
    Triple Go.Proofs.Try.prog 21 ([Value.pointer a1]).toArray H Q :=
  Triple.of_vc getL.cx (by kernel_rfl) h

theorem getL1.vc (n1 : Int) (H : PHeap) (Q : Value → PHeap → Prop)
    (h : Q (Value.bool (n1 != 0)) H) :
    Triple Go.Proofs.Try.prog 35 ([Value.int IntKind.u8 n1]).toArray H Q :=
  Triple.of_vc getL1.cx (by kernel_rfl) h

theorem contB.vc (a1 : Option Addr) (k2 : Nat) (k3 : Nat) (v4 : Value) (H : PHeap) (Q : Value → PHeap → Prop)
    (h : Triple Proofs.Try.prog 41 #[Value.slice a1 k2 k3, v4] H fun v5 H6 => ∃ n7, v5 = Value.int IntKind.i64 n7 ∧ Q (Value.bool (decide (n7 ≥ 0))) H6) :
    Triple Go.Proofs.Try.prog 34 ([Value.slice a1 k2 k3, v4]).toArray H Q :=
  Triple.of_vc contB.cx (by kernel_rfl) h

theorem idxB.vc (a1 : Option Addr) (k2 : Nat) (k3 : Nat) (v4 : Value) (H : PHeap) (Q : Value → PHeap → Prop)
    (h : ∃ (R5 : Rl) (M6 : Mu),
  R5 [Value.int IntKind.i64 0] H ∧
    ∀ (n7 : Int) (H8 : PHeap),
      R5 [Value.int IntKind.i64 n7] H8 →
        (decide (n7 < (↑k2 : Int)) = true →
        Ob (a1 ≠ none ∧ 0 ≤ n7 ∧ n7 < (↑k2 : Int)) ∧
        ∃ n9,
        Reads H8 (elemA a1 n7 1) [Value.int IntKind.u8 n9] ∧
        CallY Proofs.Try.prog v4 #[Value.int IntKind.u8 n9] H8 fun v10 H11 =>
        ∃ b12,
        v10 = Value.bool b12 ∧
        (b12 = true → Q (Value.int IntKind.i64 n7) H11) ∧
        (b12 = false →
        R5 [Value.int IntKind.i64 (IntKind.i64.wrap (n7 + 1))] H11 ∧ Less (M6 [Value.int IntKind.i64 (IntKind.i64.wrap (n7 + 1))] H11) (M6 [Value.int IntKind.i64 n7] H8))) ∧
        (decide (n7 < (↑k2 : Int)) = false → Q (Value.int IntKind.i64 (-1)) H8)) :
    Triple Go.Proofs.Try.prog 41 ([Value.slice a1 k2 k3, v4]).toArray H Q :=
  Triple.of_vc idxB.cx (by kernel_rfl) h

theorem refPutL.vc (s1 : ByteArray) (H : PHeap) (Q : Value → PHeap → Prop)
    (h : EvV Proofs.Try.prog (Instr.makeSlice 34 (Value.int IntKind.i64 17) (Value.int IntKind.i64 17)) H fun v2 H3 =>
  ∃ a4 k5 k6,
    v2 = Value.slice a4 k5 k6 ∧
      Triple Proofs.Try.prog 8 #[Value.string s1] H3 fun v7 H8 =>
        ∃ b9,
        v7 = Value.bool b9 ∧
        (b9 = true →
        Ob (a4 ≠ none ∧ (0 : Int) ≤ 0 ∧ 0 < (↑k5 : Int)) ∧
        ∃ H10,
        Writes H8 H10 (elemA a4 0 1) [Value.int IntKind.u8 (IntKind.u8.wrap (↑s1.size : Int))] ∧
        ∃ (R11 : Rl) (M12 : Mu),
        R11 [Value.int IntKind.i64 0] H10 ∧
        ∀ (n13 : Int) (H14 : PHeap),
        R11 [Value.int IntKind.i64 n13] H14 →
        (decide (n13 < (↑s1.size : Int)) = true →
        Ob (0 ≤ n13 ∧ n13 < (↑s1.size : Int)) ∧
        Ob (a4 ≠ none ∧ 0 ≤ IntKind.i64.wrap (1 + n13) ∧ IntKind.i64.wrap (1 + n13) < (↑k5 : Int)) ∧
        ∃ H15,
        Writes H14 H15 (elemA a4 (IntKind.i64.wrap (1 + n13)) 1) [Value.int IntKind.u8 (byteAt s1 n13)] ∧
        R11 [Value.int IntKind.i64 (IntKind.i64.wrap (n13 + 1))] H15 ∧
        Less (M12 [Value.int IntKind.i64 (IntKind.i64.wrap (n13 + 1))] H15) (M12 [Value.int IntKind.i64 n13] H14)) ∧
        (decide (n13 < (↑s1.size : Int)) = false → Q (Value.slice a4 k5 k6) H14)) ∧
        (b9 = false → Q (Value.slice a4 k5 k6) H8)) :
    Triple Go.Proofs.Try.prog 20 ([Value.string s1]).toArray H Q :=
  Triple.of_vc refPutL.cx (by kernel_rfl) h

theorem refGetL.vc (a1 : Option Addr) (k2 : Nat) (k3 : Nat) (H : PHeap) (Q : Value → PHeap → Prop)
    (h : Ob (a1 ≠ none ∧ (0 : Int) ≤ 0 ∧ 0 < (↑k2 : Int)) ∧
  ∃ n4,
    Reads H (elemA a1 0 1) [Value.int IntKind.u8 n4] ∧
      (decide (IntKind.i64.wrap n4 > 16) = false →
        Ob ((0 : Int) ≤ 1 ∧ 1 ≤ IntKind.i64.wrap (1 + IntKind.i64.wrap n4) ∧ IntKind.i64.wrap (1 + IntKind.i64.wrap n4) ≤ (↑k3 : Int)) ∧
        EvV Proofs.Try.prog (convert 34 9 (Value.slice (slA a1 1 k3 1) ((IntKind.i64.wrap (1 + IntKind.i64.wrap n4)).toNat - Int.toNat 1) (k3 - Int.toNat 1))) H fun v5 H6 =>
        ∃ s7,
        v5 = Value.string s7 ∧
        Triple Proofs.Try.prog 8 #[Value.string s7] H6 fun v8 H9 =>
        ∃ b10,
        v8 = Value.bool b10 ∧
        ((!b10) = true → Q (Value.tuple #[Value.string { data := #[] }, Value.bool false]) H9) ∧
        ((!b10) = false →
        ∃ (R11 : Rl) (M12 : Mu),
        R11 [Value.int IntKind.i64 (IntKind.i64.wrap (1 + IntKind.i64.wrap n4))] H9 ∧
        ∀ (n13 : Int) (H14 : PHeap),
        R11 [Value.int IntKind.i64 n13] H14 →
        (decide (n13 < 17) = true →
        Ob (a1 ≠ none ∧ 0 ≤ n13 ∧ n13 < (↑k2 : Int)) ∧
        ∃ n15,
        Reads H14 (elemA a1 n13 1) [Value.int IntKind.u8 n15] ∧
        ((n15 != 0) = true → Q (Value.tuple #[Value.string { data := #[] }, Value.bool false]) H14) ∧
        ((n15 != 0) = false →
        R11 [Value.int IntKind.i64 (IntKind.i64.wrap (n13 + 1))] H14 ∧
        Less (M12 [Value.int IntKind.i64 (IntKind.i64.wrap (n13 + 1))] H14) (M12 [Value.int IntKind.i64 n13] H14))) ∧
        (decide (n13 < 17) = false →
        Ob ((0 : Int) ≤ 1 ∧ 1 ≤ IntKind.i64.wrap (1 + IntKind.i64.wrap n4) ∧ IntKind.i64.wrap (1 + IntKind.i64.wrap n4) ≤ (↑k3 : Int)) ∧
        EvV Proofs.Try.prog (convert 34 9 (Value.slice (slA a1 1 k3 1) ((IntKind.i64.wrap (1 + IntKind.i64.wrap n4)).toNat - Int.toNat 1) (k3 - Int.toNat 1))) H14
        fun v16 H17 => ∃ s18, v16 = Value.string s18 ∧ Q (Value.tuple #[Value.string s18, Value.bool true]) H17))) ∧
        (decide (IntKind.i64.wrap n4 > 16) = !false → Q (Value.tuple #[Value.string { data := #[] }, Value.bool false]) H)) :
    Triple Go.Proofs.Try.prog 23 ([Value.slice a1 k2 k3]).toArray H Q :=
  Triple.of_vc refGetL.cx (by kernel_rfl) h

theorem sameB.vc (a1 : Option Addr) (k2 : Nat) (k3 : Nat) (a4 : Option Addr) (k5 : Nat) (k6 : Nat) (H : PHeap) (Q : Value → PHeap → Prop)
    (h : (((↑k2 : Int) != (↑k5 : Int)) = true → Q (Value.bool false) H) ∧
  (((↑k2 : Int) != (↑k5 : Int)) = false →
    ∃ (R7 : Rl) (M8 : Mu),
      R7 [Value.int IntKind.i64 0] H ∧
        ∀ (n9 : Int) (H10 : PHeap),
        R7 [Value.int IntKind.i64 n9] H10 →
        (decide (n9 < (↑k2 : Int)) = true →
        ∃ H11,
        Vx.Sub H11 H10 ∧
        Ob (a1 ≠ none ∧ 0 ≤ n9 ∧ n9 < (↑k2 : Int)) ∧
        ∃ n12,
        Reads H11 (elemA a1 n9 1) [Value.int IntKind.u8 n12] ∧
        Ob (a4 ≠ none ∧ 0 ≤ n9 ∧ n9 < (↑k5 : Int)) ∧
        ∃ n13,
        Reads H11 (elemA a4 n9 1) [Value.int IntKind.u8 n13] ∧
        ((n12 != n13) = true → Q (Value.bool false) H10) ∧
        ((n12 != n13) = false →
        R7 [Value.int IntKind.i64 (IntKind.i64.wrap (n9 + 1))] H10 ∧
        Less (M8 [Value.int IntKind.i64 (IntKind.i64.wrap (n9 + 1))] H10) (M8 [Value.int IntKind.i64 n9] H10))) ∧
        (decide (n9 < (↑k2 : Int)) = false → Q (Value.bool true) H10))) :
    Triple Go.Proofs.Try.prog 18 ([Value.slice a1 k2 k3, Value.slice a4 k5 k6]).toArray H Q :=
  Triple.of_vc sameB.cx (by kernel_rfl) h

theorem lawBack.vc (s1 : ByteArray) (a2 : Option Addr) (k3 : Nat) (k4 : Nat) (H : PHeap) (Q : Value → PHeap → Prop)
    (h : ((bif decide ((↑s1.size : Int) > 60) then true else decide ((↑k3 : Int) > 60)) = true → Triple Proofs.Try.prog 6 #[] H fun v5 H6 => ∃ b7, v5 = Value.bool b7 ∧ Q (Value.bool b7) H6) ∧
  ((bif decide ((↑s1.size : Int) > 60) then true else decide ((↑k3 : Int) > 60)) = false →
    ∀ (k8 : Nat),
      H k8 = none →
        Triple Proofs.Try.prog 17 #[Value.pointer (at0 k8), Value.string s1] (H.upd k8 (Obj.cells #[Value.slice none 0 0] 36)) fun v9 H10 =>
        v9 = Value.tuple #[] ∧
        Triple Proofs.Try.prog 19 #[Value.pointer (at0 k8)] H10 fun v11 H12 =>
        ∃ a13 k14 k15,
        v11 = Value.slice a13 k14 k15 ∧
        Triple Proofs.Try.prog 20 #[Value.string s1] H12 fun v16 H17 =>
        ∃ a18 k19 k20,
        v16 = Value.slice a18 k19 k20 ∧
        Triple Proofs.Try.prog 18 #[Value.slice a13 k14 k15, Value.slice a18 k19 k20] H17 fun v21 H22 =>
        ∃ b23,
        v21 = Value.bool b23 ∧
        ((!b23) = true → Q (Value.bool false) H22) ∧
        ((!b23) = false →
        Triple Proofs.Try.prog 19 #[Value.pointer (at0 k8)] H22 fun v24 H25 =>
        ∃ a26 k27 k28,
        v24 = Value.slice a26 k27 k28 ∧
        Triple Proofs.Try.prog 22 #[Value.slice a26 k27 k28] H25 fun v29 H30 =>
        ∃ a31,
        v29 = Value.pointer a31 ∧
        Triple Proofs.Try.prog 21 #[Value.pointer a31] H30 fun v32 H33 =>
        ∃ s34 b35,
        v32 = Value.tuple #[Value.string s34, Value.bool b35] ∧
        Triple Proofs.Try.prog 8 #[Value.string s1] H33 fun v36 H37 =>
        ∃ b38,
        v36 = Value.bool b38 ∧
        ((bif !b35 == b38 then true
        else
        bif b35 then bif !eqS s34 s1 then true else bif !b35 then !eqS s34 { data := #[] } else false
        else bif !b35 then !eqS s34 { data := #[] } else false) =
        true →
        Q (Value.bool false) H37) ∧
        ((bif !b35 == b38 then true
        else
        bif b35 then bif !eqS s34 s1 then true else bif !b35 then !eqS s34 { data := #[] } else false
        else bif !b35 then !eqS s34 { data := #[] } else false) =
        false →
        Triple Proofs.Try.prog 22 #[Value.slice a2 k3 k4] H37 fun v39 H40 =>
        ∃ a41,
        v39 = Value.pointer a41 ∧
        Triple Proofs.Try.prog 21 #[Value.pointer a41] H40 fun v42 H43 =>
        ∃ s44 b45,
        v42 = Value.tuple #[Value.string s44, Value.bool b45] ∧
        (decide ((↑k3 : Int) < 17) = true →
        (eqS s44 { data := #[] } = true →
        ((!b45) = true →
        Triple Proofs.Try.prog 6 #[] H43 fun v46 H47 => ∃ b48, v46 = Value.bool b48 ∧ Q (Value.bool b48) H47) ∧
        ((!b45) = !true → Q (Value.bool false) H43)) ∧
        (eqS s44 { data := #[] } = !true → Q (Value.bool false) H43)) ∧
        (decide ((↑k3 : Int) < 17) = false →
        Ob ((0 : Int) ≤ 0 ∧ (0 : Int) ≤ 17 ∧ 17 ≤ (↑k4 : Int)) ∧
        Triple Proofs.Try.prog 23 #[Value.slice (slA a2 0 k4 1) (Int.toNat 17 - Int.toNat 0) (k4 - Int.toNat 0)] H43
        fun v49 H50 =>
        ∃ s51 b52,
        v49 = Value.tuple #[Value.string s51, Value.bool b52] ∧
        (eqS s44 s51 = true →
        ((b45 == b52) = true →
        Triple Proofs.Try.prog 24 #[Value.pointer a41] H50 fun v53 H54 =>
        ∃ n55,
        v53 = Value.int IntKind.i64 n55 ∧
        ((n55 == IntKind.i64.wrap ((↑k3 : Int) - 17)) = true →
        Triple Proofs.Try.prog 6 #[] H54 fun v56 H57 =>
        ∃ b58, v56 = Value.bool b58 ∧ Q (Value.bool b58) H57) ∧
        ((n55 == IntKind.i64.wrap ((↑k3 : Int) - 17)) = !true → Q (Value.bool false) H54)) ∧
        ((b45 == b52) = !true → Q (Value.bool false) H50)) ∧
        (eqS s44 s51 = !true → Q (Value.bool false) H50)))))) :
    Triple Go.Proofs.Try.prog 5 ([Value.string s1, Value.slice a2 k3 k4]).toArray H Q :=
  Triple.of_vc lawBack.cx (by kernel_rfl) h

end Go.Vc
