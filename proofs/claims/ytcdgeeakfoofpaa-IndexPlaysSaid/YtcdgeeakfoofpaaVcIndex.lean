/- What is to be shown of each function, in its normal form. Printed by a program of this session's, checked by the kernel. -/
import Derived.Test.YtcdgeeakfoofpaaVxN
import Derived.Test.YtcdgeeakfoofpaaProg
set_option linter.unusedVariables false
set_option maxRecDepth 100000
namespace Go.Vc
open Go.Vx Go
def aliveI.cx : Cx := ⟨[], [], [], []⟩
def newI.cx : Cx := ⟨[2], [], [], []⟩
def refFind.cx : Cx := ⟨[], [(2, [7], [])], [], []⟩
def asI.cx : Cx := ⟨[], [], [], []⟩
def putI.cx : Cx := ⟨[], [], [], []⟩
def refPut.cx : Cx := ⟨[], [(7, [6, 7, 8], [])], [], []⟩
def dropI.cx : Cx := ⟨[], [], [], []⟩
def refDrop.cx : Cx := ⟨[], [], [], []⟩
def findI.cx : Cx := ⟨[], [], [], []⟩
def sameI.cx : Cx := ⟨[], [(4, [13], [])], [], []⟩
def allI.cx : Cx := ⟨[], [], [], []⟩
def namesI.cx : Cx := ⟨[], [(3, [3, 10], [])], [], []⟩
def refNames.cx : Cx := ⟨[], [(3, [3, 4], [])], [], []⟩
def copyI.cx : Cx := ⟨[11], [], [], []⟩
def placeI.cx : Cx := ⟨[2, 3], [], [], []⟩
def insertI.cx : Cx := ⟨[], [], [], []⟩
def refLess.cx : Cx := ⟨[], [], [], []⟩
def deleteI.cx : Cx := ⟨[], [], [], []⟩
def cloneI.cx : Cx := ⟨[], [], [], []⟩
def search.cx : Cx := ⟨[], [(2, [5, 6], [])], [], []⟩
def placeI1.cx : Cx := ⟨[], [], [], []⟩
def lessI.cx : Cx := ⟨[], [], [], []⟩
def labelLess.cx : Cx := ⟨[], [], [], []⟩

theorem aliveI.vc (H : PHeap) (Q : Value → PHeap → Prop)
    (h : Triple Proofs.Try.prog 6 #[] H fun v1 H2 =>
  ∃ a3,
    v1 = Value.pointer a3 ∧
      Triple Proofs.Try.prog 8 #[Value.agg #[Value.string { data := #[98] }, Value.int IntKind.i64 0, Value.int IntKind.i64 0, Value.int IntKind.i64 0]] H2 fun v4 H5 =>
        ∃ s6 n7 n8 n9,
        v4 = Value.agg #[Value.string s6, Value.int IntKind.i64 n7, Value.int IntKind.i64 n8, Value.int IntKind.i64 n9] ∧
        Triple Proofs.Try.prog 9 #[Value.pointer a3, Value.agg #[Value.string s6, Value.int IntKind.i64 n7, Value.int IntKind.i64 n8, Value.int IntKind.i64 n9]] H5 fun v10 H11 =>
        ∃ s12 n13 n14 n15 b16,
        v10 = Value.tuple #[Value.agg #[Value.string s12, Value.int IntKind.i64 n13, Value.int IntKind.i64 n14, Value.int IntKind.i64 n15], Value.bool b16] ∧
        Triple Proofs.Try.prog 8 #[Value.agg #[Value.string { data := #[97] }, Value.int IntKind.i64 1, Value.int IntKind.i64 0, Value.int IntKind.i64 0]] H11 fun v17 H18 =>
        ∃ s19 n20 n21 n22,
        v17 = Value.agg #[Value.string s19, Value.int IntKind.i64 n20, Value.int IntKind.i64 n21, Value.int IntKind.i64 n22] ∧
        Triple Proofs.Try.prog 9 #[Value.pointer a3, Value.agg #[Value.string s19, Value.int IntKind.i64 n20, Value.int IntKind.i64 n21, Value.int IntKind.i64 n22]] H18 fun v23 H24 =>
        ∃ s25 n26 n27 n28 b29,
        v23 = Value.tuple #[Value.agg #[Value.string s25, Value.int IntKind.i64 n26, Value.int IntKind.i64 n27, Value.int IntKind.i64 n28], Value.bool b29] ∧
        Triple Proofs.Try.prog 8 #[Value.agg #[Value.string { data := #[97] }, Value.int IntKind.i64 0, Value.int IntKind.i64 0, Value.int IntKind.i64 5]] H24 fun v30 H31 =>
        ∃ s32 n33 n34 n35,
        v30 = Value.agg #[Value.string s32, Value.int IntKind.i64 n33, Value.int IntKind.i64 n34, Value.int IntKind.i64 n35] ∧
        Triple Proofs.Try.prog 9 #[Value.pointer a3, Value.agg #[Value.string s32, Value.int IntKind.i64 n33, Value.int IntKind.i64 n34, Value.int IntKind.i64 n35]] H31
        fun v36 H37 =>
        ∃ s38 n39 n40 n41 b42,
        v36 = Value.tuple #[Value.agg #[Value.string s38, Value.int IntKind.i64 n39, Value.int IntKind.i64 n40, Value.int IntKind.i64 n41], Value.bool b42] ∧
        Triple Proofs.Try.prog 15 #[Value.pointer a3] H37 fun v43 H44 =>
        ∃ a45 k46 k47,
        v43 = Value.slice a45 k46 k47 ∧
        (((↑k46 : Int) == 3) = true →
        Ob (a45 ≠ none ∧ (0 : Int) ≤ 0 ∧ 0 < (↑k46 : Int)) ∧
        Ob (elemA a45 0 4 ≠ none) ∧
        ∃ n48,
        Reads H44 (fldA (elemA a45 0 4) 3) [Value.int IntKind.i64 n48] ∧
        ((n48 == 5) = true →
        Ob (a45 ≠ none ∧ (0 : Int) ≤ 1 ∧ 1 < (↑k46 : Int)) ∧
        Ob (elemA a45 1 4 ≠ none) ∧
        Ob (fldA (elemA a45 1 4) 0 ≠ none) ∧
        ∃ n49,
        Reads H44 (fldA (fldA (elemA a45 1 4) 0) 1) [Value.int IntKind.i64 n49] ∧
        ((n49 == 1) = true →
        Ob (a45 ≠ none ∧ (0 : Int) ≤ 2 ∧ 2 < (↑k46 : Int)) ∧
        Ob (elemA a45 2 4 ≠ none) ∧
        Ob (fldA (elemA a45 2 4) 0 ≠ none) ∧
        ∃ s50,
        Reads H44 (fldA (fldA (elemA a45 2 4) 0) 0) [Value.string s50] ∧
        (eqS s50 { data := #[98] } = true →
        Triple Proofs.Try.prog 17 #[Value.pointer a3] H44 fun v51 H52 =>
        ∃ a53 k54 k55, v51 = Value.slice a53 k54 k55 ∧ Q (Value.bool ((↑k54 : Int) == 2)) H52) ∧
        (eqS s50 { data := #[98] } = !true → Q (Value.bool false) H44)) ∧
        ((n49 == 1) = !true → Q (Value.bool false) H44)) ∧
        ((n48 == 5) = !true → Q (Value.bool false) H44)) ∧
        (((↑k46 : Int) == 3) = !true → Q (Value.bool false) H44)) :
    Triple Go.Proofs.Try.prog 5 ([]).toArray H Q :=
  Triple.of_vc aliveI.cx (by kernel_rfl) h

theorem newI.vc (H : PHeap) (Q : Value → PHeap → Prop)
    (h : ∀ (k1 : Nat), H k1 = none → Q (Value.pointer (at0 k1)) (H.upd k1 (Obj.cells #[Value.slice none 0 0] 52))) :
    Triple Go.Proofs.Try.prog 6 ([]).toArray H Q :=
  Triple.of_vc newI.cx (by kernel_rfl) h

theorem refFind.vc (a1 : Option Addr) (k2 : Nat) (k3 : Nat) (s4 : ByteArray) (n5 : Int) (H : PHeap) (Q : Value → PHeap → Prop)
    (h : ∃ (R6 : Rl) (M7 : Mu),
  R6 [Value.int IntKind.i64 0] H ∧
    ∀ (n8 : Int) (H9 : PHeap),
      R6 [Value.int IntKind.i64 n8] H9 →
        (decide (n8 < (↑k2 : Int)) = true →
        Ob (a1 ≠ none ∧ 0 ≤ n8 ∧ n8 < (↑k2 : Int)) ∧
        Ob (elemA a1 n8 4 ≠ none) ∧
        ∃ s10,
        Reads H9 (fldA (elemA a1 n8 4) 0) [Value.string s10] ∧
        (eqS s10 s4 = true →
        Ob (a1 ≠ none ∧ 0 ≤ n8 ∧ n8 < (↑k2 : Int)) ∧
        Ob (elemA a1 n8 4 ≠ none) ∧
        ∃ n11,
        Reads H9 (fldA (elemA a1 n8 4) 1) [Value.int IntKind.i64 n11] ∧
        ((n11 == n5) = true → Q (Value.int IntKind.i64 n8) H9) ∧
        ((n11 == n5) = false →
        R6 [Value.int IntKind.i64 (IntKind.i64.wrap (n8 + 1))] H9 ∧ Less (M7 [Value.int IntKind.i64 (IntKind.i64.wrap (n8 + 1))] H9) (M7 [Value.int IntKind.i64 n8] H9))) ∧
        (eqS s10 s4 = !true →
        R6 [Value.int IntKind.i64 (IntKind.i64.wrap (n8 + 1))] H9 ∧ Less (M7 [Value.int IntKind.i64 (IntKind.i64.wrap (n8 + 1))] H9) (M7 [Value.int IntKind.i64 n8] H9))) ∧
        (decide (n8 < (↑k2 : Int)) = false → Q (Value.int IntKind.i64 (-1)) H9)) :
    Triple Go.Proofs.Try.prog 7 ([Value.slice a1 k2 k3, Value.string s4, Value.int IntKind.i64 n5]).toArray H Q :=
  Triple.of_vc refFind.cx (by kernel_rfl) h

theorem asI.vc (s1 : ByteArray) (n2 : Int) (n3 : Int) (n4 : Int) (H : PHeap) (Q : Value → PHeap → Prop)
    (h : Q (Value.agg #[Value.string s1, Value.int IntKind.i64 n2, Value.int IntKind.i64 n3, Value.int IntKind.i64 n4]) H) :
    Triple Go.Proofs.Try.prog 8 ([Value.agg #[Value.string s1, Value.int IntKind.i64 n2, Value.int IntKind.i64 n3, Value.int IntKind.i64 n4]]).toArray H Q :=
  Triple.of_vc asI.cx (by kernel_rfl) h

theorem putI.vc (a1 : Option Addr) (s2 : ByteArray) (n3 : Int) (n4 : Int) (n5 : Int) (H : PHeap) (Q : Value → PHeap → Prop)
    (h : Triple Proofs.Try.prog 20 #[Value.pointer a1, Value.agg #[Value.string s2, Value.int IntKind.i64 n3]] H fun v6 H7 =>
  ∃ n8 b9,
    v6 = Value.tuple #[Value.int IntKind.i64 n8, Value.bool b9] ∧
      (a1.isNone = true → Q (Value.tuple #[Value.agg #[Value.string { data := #[] }, Value.int IntKind.i64 0, Value.int IntKind.i64 0, Value.int IntKind.i64 0], Value.bool false]) H7) ∧
        (a1.isNone = false →
        (b9 = true →
        Ob (a1 ≠ none) ∧
        Ob (a1 ≠ none) ∧
        ∃ a10 k11 k12,
        Reads H7 (fldA a1 0) [Value.slice a10 k11 k12] ∧
        Ob (a10 ≠ none ∧ 0 ≤ n8 ∧ n8 < (↑k11 : Int)) ∧
        ∃ s13 n14 n15 n16,
        Reads H7 (elemA a10 n8 4) [Value.string s13, Value.int IntKind.i64 n14, Value.int IntKind.i64 n15, Value.int IntKind.i64 n16] ∧
        ∃ H17,
        Vx.Sub H17 H7 ∧
        Ob (a1 ≠ none) ∧
        Ob (a1 ≠ none) ∧
        ∃ a18 k19 k20,
        Reads H17 (fldA a1 0) [Value.slice a18 k19 k20] ∧
        Ob (a18 ≠ none ∧ 0 ≤ n8 ∧ n8 < (↑k19 : Int)) ∧
        ∃ H21,
        Writes H7 H21 (elemA a18 n8 4) [Value.string s2, Value.int IntKind.i64 n3, Value.int IntKind.i64 n4, Value.int IntKind.i64 n5] ∧
        Q (Value.tuple #[Value.agg #[Value.string s13, Value.int IntKind.i64 n14, Value.int IntKind.i64 n15, Value.int IntKind.i64 n16], Value.bool true]) H21) ∧
        (b9 = false →
        ∃ H22,
        Vx.Sub H22 H7 ∧
        Ob (a1 ≠ none) ∧
        Ob (a1 ≠ none) ∧
        ∃ a23 k24 k25,
        Reads H22 (fldA a1 0) [Value.slice a23 k24 k25] ∧
        ∀ (k26 : Nat),
        H7 k26 = none →
        Vx.Sub H22 (H7.upd k26 (Obj.cells #[Value.string s2, Value.int IntKind.i64 n3, Value.int IntKind.i64 n4, Value.int IntKind.i64 n5] 35)) ∧
        Triple Proofs.Try.prog 21 #[Value.slice a23 k24 k25, Value.int IntKind.i64 n8, Value.slice (at0 k26) 1 1]
        (H7.upd k26 (Obj.cells #[Value.string s2, Value.int IntKind.i64 n3, Value.int IntKind.i64 n4, Value.int IntKind.i64 n5] 35)) fun v27 H28 =>
        ∃ a29 k30 k31,
        v27 = Value.slice a29 k30 k31 ∧
        Ob (a1 ≠ none) ∧
        Ob (a1 ≠ none) ∧
        ∃ H32,
        Writes H28 H32 (fldA a1 0) [Value.slice a29 k30 k31] ∧
        Q (Value.tuple #[Value.agg #[Value.string { data := #[] }, Value.int IntKind.i64 0, Value.int IntKind.i64 0, Value.int IntKind.i64 0], Value.bool false])
        H32))) :
    Triple Go.Proofs.Try.prog 9 ([Value.pointer a1, Value.agg #[Value.string s2, Value.int IntKind.i64 n3, Value.int IntKind.i64 n4, Value.int IntKind.i64 n5]]).toArray H Q :=
  Triple.of_vc putI.cx (by kernel_rfl) h

theorem refPut.vc (a1 : Option Addr) (k2 : Nat) (k3 : Nat) (s4 : ByteArray) (n5 : Int) (n6 : Int) (n7 : Int) (H : PHeap) (Q : Value → PHeap → Prop)
    (h : Triple Proofs.Try.prog 7 #[Value.slice a1 k2 k3, Value.string s4, Value.int IntKind.i64 n5] H fun v8 H9 =>
  ∃ n10,
    v8 = Value.int IntKind.i64 n10 ∧
      (decide (n10 ≥ 0) = true →
        Triple Proofs.Try.prog 12 #[Value.slice a1 k2 k3, Value.int IntKind.i64 n10] H9 fun v11 H12 =>
        ∃ a13 k14 k15,
        v11 = Value.slice a13 k14 k15 ∧
        ∃ (R16 : Rl) (M17 : Mu),
        R16 [Value.slice none 0 0, Value.bool false, Value.int IntKind.i64 0] H12 ∧
        ∀ (a18 : Option Addr) (k19 k20 : Nat) (b21 : Bool) (n22 : Int) (H23 : PHeap),
        R16 [Value.slice a18 k19 k20, Value.bool b21, Value.int IntKind.i64 n22] H23 →
        (decide (n22 < (↑k14 : Int)) = true →
        ∃ H24,
        Vx.Sub H24 H23 ∧
        ((!b21) = true →
        Ob (a13 ≠ none ∧ 0 ≤ n22 ∧ n22 < (↑k14 : Int)) ∧
        ∃ s25 n26 n27 n28,
        Reads H24 (elemA a13 n22 4) [Value.string s25, Value.int IntKind.i64 n26, Value.int IntKind.i64 n27, Value.int IntKind.i64 n28] ∧
        Triple Proofs.Try.prog 22
        #[Value.agg #[Value.string s4, Value.int IntKind.i64 n5, Value.int IntKind.i64 n6, Value.int IntKind.i64 n7],
        Value.agg #[Value.string s25, Value.int IntKind.i64 n26, Value.int IntKind.i64 n27, Value.int IntKind.i64 n28]]
        H23 fun v29 H30 =>
        ∃ b31,
        v29 = Value.bool b31 ∧
        (b31 = true →
        ∀ (k32 : Nat),
        H30 k32 = none →
        EvV Proofs.Try.prog (Builtin.append_ #[26, 26] 26 #[Value.slice a18 k19 k20, Value.slice (at0 k32) 1 1])
        (H30.upd k32 (Obj.cells #[Value.string s4, Value.int IntKind.i64 n5, Value.int IntKind.i64 n6, Value.int IntKind.i64 n7] 28)) fun v33 H34 =>
        ∃ a35 k36 k37,
        v33 = Value.slice a35 k36 k37 ∧
        Ob (a13 ≠ none ∧ 0 ≤ n22 ∧ n22 < (↑k14 : Int)) ∧
        ∃ s38 n39 n40 n41,
        Reads H34 (elemA a13 n22 4) [Value.string s38, Value.int IntKind.i64 n39, Value.int IntKind.i64 n40, Value.int IntKind.i64 n41] ∧
        ∀ (k42 : Nat),
        H34 k42 = none →
        EvV Proofs.Try.prog (Builtin.append_ #[26, 26] 26 #[Value.slice a35 k36 k37, Value.slice (at0 k42) 1 1])
        (H34.upd k42
        (Obj.cells #[Value.string s38, Value.int IntKind.i64 n39, Value.int IntKind.i64 n40, Value.int IntKind.i64 n41] 28))
        fun v43 H44 =>
        ∃ a45 k46 k47,
        v43 = Value.slice a45 k46 k47 ∧
        R16 [Value.slice a45 k46 k47, Value.bool true, Value.int IntKind.i64 (IntKind.i64.wrap (n22 + 1))] H44 ∧
        Less (M17 [Value.slice a45 k46 k47, Value.bool true, Value.int IntKind.i64 (IntKind.i64.wrap (n22 + 1))] H44)
        (M17 [Value.slice a18 k19 k20, Value.bool b21, Value.int IntKind.i64 n22] H23)) ∧
        (b31 = false →
        Ob (a13 ≠ none ∧ 0 ≤ n22 ∧ n22 < (↑k14 : Int)) ∧
        ∃ s48 n49 n50 n51,
        Reads H30 (elemA a13 n22 4) [Value.string s48, Value.int IntKind.i64 n49, Value.int IntKind.i64 n50, Value.int IntKind.i64 n51] ∧
        ∀ (k52 : Nat),
        H30 k52 = none →
        EvV Proofs.Try.prog (Builtin.append_ #[26, 26] 26 #[Value.slice a18 k19 k20, Value.slice (at0 k52) 1 1])
        (H30.upd k52 (Obj.cells #[Value.string s48, Value.int IntKind.i64 n49, Value.int IntKind.i64 n50, Value.int IntKind.i64 n51] 28))
        fun v53 H54 =>
        ∃ a55 k56 k57,
        v53 = Value.slice a55 k56 k57 ∧
        R16 [Value.slice a55 k56 k57, Value.bool b21, Value.int IntKind.i64 (IntKind.i64.wrap (n22 + 1))] H54 ∧
        Less (M17 [Value.slice a55 k56 k57, Value.bool b21, Value.int IntKind.i64 (IntKind.i64.wrap (n22 + 1))] H54)
        (M17 [Value.slice a18 k19 k20, Value.bool b21, Value.int IntKind.i64 n22] H23))) ∧
        ((!b21) = !true →
        Ob (a13 ≠ none ∧ 0 ≤ n22 ∧ n22 < (↑k14 : Int)) ∧
        ∃ s58 n59 n60 n61,
        Reads H23 (elemA a13 n22 4) [Value.string s58, Value.int IntKind.i64 n59, Value.int IntKind.i64 n60, Value.int IntKind.i64 n61] ∧
        ∀ (k62 : Nat),
        H23 k62 = none →
        EvV Proofs.Try.prog (Builtin.append_ #[26, 26] 26 #[Value.slice a18 k19 k20, Value.slice (at0 k62) 1 1])
        (H23.upd k62 (Obj.cells #[Value.string s58, Value.int IntKind.i64 n59, Value.int IntKind.i64 n60, Value.int IntKind.i64 n61] 28)) fun v63 H64 =>
        ∃ a65 k66 k67,
        v63 = Value.slice a65 k66 k67 ∧
        R16 [Value.slice a65 k66 k67, Value.bool b21, Value.int IntKind.i64 (IntKind.i64.wrap (n22 + 1))] H64 ∧
        Less (M17 [Value.slice a65 k66 k67, Value.bool b21, Value.int IntKind.i64 (IntKind.i64.wrap (n22 + 1))] H64)
        (M17 [Value.slice a18 k19 k20, Value.bool b21, Value.int IntKind.i64 n22] H23))) ∧
        (decide (n22 < (↑k14 : Int)) = false →
        ((!b21) = true →
        ∀ (k68 : Nat),
        H23 k68 = none →
        EvV Proofs.Try.prog (Builtin.append_ #[26, 26] 26 #[Value.slice a18 k19 k20, Value.slice (at0 k68) 1 1])
        (H23.upd k68 (Obj.cells #[Value.string s4, Value.int IntKind.i64 n5, Value.int IntKind.i64 n6, Value.int IntKind.i64 n7] 28)) fun v69 H70 =>
        ∃ a71 k72 k73, v69 = Value.slice a71 k72 k73 ∧ Q (Value.slice a71 k72 k73) H70) ∧
        ((!b21) = false → Q (Value.slice a18 k19 k20) H23))) ∧
        (decide (n10 ≥ 0) = false →
        ∃ (R74 : Rl) (M75 : Mu),
        R74 [Value.slice none 0 0, Value.bool false, Value.int IntKind.i64 0] H9 ∧
        ∀ (a76 : Option Addr) (k77 k78 : Nat) (b79 : Bool) (n80 : Int) (H81 : PHeap),
        R74 [Value.slice a76 k77 k78, Value.bool b79, Value.int IntKind.i64 n80] H81 →
        (decide (n80 < (↑k2 : Int)) = true →
        ∃ H82,
        Vx.Sub H82 H81 ∧
        ((!b79) = true →
        Ob (a1 ≠ none ∧ 0 ≤ n80 ∧ n80 < (↑k2 : Int)) ∧
        ∃ s83 n84 n85 n86,
        Reads H82 (elemA a1 n80 4) [Value.string s83, Value.int IntKind.i64 n84, Value.int IntKind.i64 n85, Value.int IntKind.i64 n86] ∧
        Triple Proofs.Try.prog 22
        #[Value.agg #[Value.string s4, Value.int IntKind.i64 n5, Value.int IntKind.i64 n6, Value.int IntKind.i64 n7],
        Value.agg #[Value.string s83, Value.int IntKind.i64 n84, Value.int IntKind.i64 n85, Value.int IntKind.i64 n86]]
        H81 fun v87 H88 =>
        ∃ b89,
        v87 = Value.bool b89 ∧
        (b89 = true →
        ∀ (k90 : Nat),
        H88 k90 = none →
        EvV Proofs.Try.prog (Builtin.append_ #[26, 26] 26 #[Value.slice a76 k77 k78, Value.slice (at0 k90) 1 1])
        (H88.upd k90 (Obj.cells #[Value.string s4, Value.int IntKind.i64 n5, Value.int IntKind.i64 n6, Value.int IntKind.i64 n7] 28)) fun v91 H92 =>
        ∃ a93 k94 k95,
        v91 = Value.slice a93 k94 k95 ∧
        Ob (a1 ≠ none ∧ 0 ≤ n80 ∧ n80 < (↑k2 : Int)) ∧
        ∃ s96 n97 n98 n99,
        Reads H92 (elemA a1 n80 4) [Value.string s96, Value.int IntKind.i64 n97, Value.int IntKind.i64 n98, Value.int IntKind.i64 n99] ∧
        ∀ (k100 : Nat),
        H92 k100 = none →
        EvV Proofs.Try.prog (Builtin.append_ #[26, 26] 26 #[Value.slice a93 k94 k95, Value.slice (at0 k100) 1 1])
        (H92.upd k100 (Obj.cells #[Value.string s96, Value.int IntKind.i64 n97, Value.int IntKind.i64 n98, Value.int IntKind.i64 n99] 28))
        fun v101 H102 =>
        ∃ a103 k104 k105,
        v101 = Value.slice a103 k104 k105 ∧
        R74 [Value.slice a103 k104 k105, Value.bool true, Value.int IntKind.i64 (IntKind.i64.wrap (n80 + 1))] H102 ∧
        Less (M75 [Value.slice a103 k104 k105, Value.bool true, Value.int IntKind.i64 (IntKind.i64.wrap (n80 + 1))] H102)
        (M75 [Value.slice a76 k77 k78, Value.bool b79, Value.int IntKind.i64 n80] H81)) ∧
        (b89 = false →
        Ob (a1 ≠ none ∧ 0 ≤ n80 ∧ n80 < (↑k2 : Int)) ∧
        ∃ s106 n107 n108 n109,
        Reads H88 (elemA a1 n80 4) [Value.string s106, Value.int IntKind.i64 n107, Value.int IntKind.i64 n108, Value.int IntKind.i64 n109] ∧
        ∀ (k110 : Nat),
        H88 k110 = none →
        EvV Proofs.Try.prog (Builtin.append_ #[26, 26] 26 #[Value.slice a76 k77 k78, Value.slice (at0 k110) 1 1])
        (H88.upd k110 (Obj.cells #[Value.string s106, Value.int IntKind.i64 n107, Value.int IntKind.i64 n108, Value.int IntKind.i64 n109] 28))
        fun v111 H112 =>
        ∃ a113 k114 k115,
        v111 = Value.slice a113 k114 k115 ∧
        R74 [Value.slice a113 k114 k115, Value.bool b79, Value.int IntKind.i64 (IntKind.i64.wrap (n80 + 1))] H112 ∧
        Less (M75 [Value.slice a113 k114 k115, Value.bool b79, Value.int IntKind.i64 (IntKind.i64.wrap (n80 + 1))] H112)
        (M75 [Value.slice a76 k77 k78, Value.bool b79, Value.int IntKind.i64 n80] H81))) ∧
        ((!b79) = !true →
        Ob (a1 ≠ none ∧ 0 ≤ n80 ∧ n80 < (↑k2 : Int)) ∧
        ∃ s116 n117 n118 n119,
        Reads H81 (elemA a1 n80 4) [Value.string s116, Value.int IntKind.i64 n117, Value.int IntKind.i64 n118, Value.int IntKind.i64 n119] ∧
        ∀ (k120 : Nat),
        H81 k120 = none →
        EvV Proofs.Try.prog (Builtin.append_ #[26, 26] 26 #[Value.slice a76 k77 k78, Value.slice (at0 k120) 1 1])
        (H81.upd k120 (Obj.cells #[Value.string s116, Value.int IntKind.i64 n117, Value.int IntKind.i64 n118, Value.int IntKind.i64 n119] 28)) fun v121 H122 =>
        ∃ a123 k124 k125,
        v121 = Value.slice a123 k124 k125 ∧
        R74 [Value.slice a123 k124 k125, Value.bool b79, Value.int IntKind.i64 (IntKind.i64.wrap (n80 + 1))] H122 ∧
        Less (M75 [Value.slice a123 k124 k125, Value.bool b79, Value.int IntKind.i64 (IntKind.i64.wrap (n80 + 1))] H122)
        (M75 [Value.slice a76 k77 k78, Value.bool b79, Value.int IntKind.i64 n80] H81))) ∧
        (decide (n80 < (↑k2 : Int)) = false →
        ((!b79) = true →
        ∀ (k126 : Nat),
        H81 k126 = none →
        EvV Proofs.Try.prog (Builtin.append_ #[26, 26] 26 #[Value.slice a76 k77 k78, Value.slice (at0 k126) 1 1])
        (H81.upd k126 (Obj.cells #[Value.string s4, Value.int IntKind.i64 n5, Value.int IntKind.i64 n6, Value.int IntKind.i64 n7] 28)) fun v127 H128 =>
        ∃ a129 k130 k131, v127 = Value.slice a129 k130 k131 ∧ Q (Value.slice a129 k130 k131) H128) ∧
        ((!b79) = false → Q (Value.slice a76 k77 k78) H81)))) :
    Triple Go.Proofs.Try.prog 10 ([Value.slice a1 k2 k3, Value.agg #[Value.string s4, Value.int IntKind.i64 n5, Value.int IntKind.i64 n6, Value.int IntKind.i64 n7]]).toArray H Q :=
  Triple.of_vc refPut.cx (by kernel_rfl) h

theorem dropI.vc (a1 : Option Addr) (s2 : ByteArray) (n3 : Int) (H : PHeap) (Q : Value → PHeap → Prop)
    (h : Triple Proofs.Try.prog 20 #[Value.pointer a1, Value.agg #[Value.string s2, Value.int IntKind.i64 n3]] H fun v4 H5 =>
  ∃ n6 b7,
    v4 = Value.tuple #[Value.int IntKind.i64 n6, Value.bool b7] ∧
      ((!b7) = true → Q (Value.tuple #[Value.agg #[Value.string { data := #[] }, Value.int IntKind.i64 0, Value.int IntKind.i64 0, Value.int IntKind.i64 0], Value.bool false]) H5) ∧
        ((!b7) = false →
        Ob (a1 ≠ none) ∧
        Ob (a1 ≠ none) ∧
        ∃ a8 k9 k10,
        Reads H5 (fldA a1 0) [Value.slice a8 k9 k10] ∧
        Ob (a8 ≠ none ∧ 0 ≤ n6 ∧ n6 < (↑k9 : Int)) ∧
        ∃ s11 n12 n13 n14,
        Reads H5 (elemA a8 n6 4) [Value.string s11, Value.int IntKind.i64 n12, Value.int IntKind.i64 n13, Value.int IntKind.i64 n14] ∧
        Ob (a1 ≠ none) ∧
        Ob (a1 ≠ none) ∧
        ∃ a15 k16 k17,
        Reads H5 (fldA a1 0) [Value.slice a15 k16 k17] ∧
        Triple Proofs.Try.prog 23 #[Value.slice a15 k16 k17, Value.int IntKind.i64 n6, Value.int IntKind.i64 (IntKind.i64.wrap (n6 + 1))] H5 fun v18 H19 =>
        ∃ a20 k21 k22,
        v18 = Value.slice a20 k21 k22 ∧
        Ob (a1 ≠ none) ∧
        Ob (a1 ≠ none) ∧
        ∃ H23,
        Writes H19 H23 (fldA a1 0) [Value.slice a20 k21 k22] ∧
        Q (Value.tuple #[Value.agg #[Value.string s11, Value.int IntKind.i64 n12, Value.int IntKind.i64 n13, Value.int IntKind.i64 n14], Value.bool true]) H23)) :
    Triple Go.Proofs.Try.prog 11 ([Value.pointer a1, Value.agg #[Value.string s2, Value.int IntKind.i64 n3]]).toArray H Q :=
  Triple.of_vc dropI.cx (by kernel_rfl) h

theorem refDrop.vc (a1 : Option Addr) (k2 : Nat) (k3 : Nat) (n4 : Int) (H : PHeap) (Q : Value → PHeap → Prop)
    (h : ∀ (k5 : Nat),
  H k5 = none →
    Ob ((0 : Int) ≤ 0 ∧ 0 ≤ n4 ∧ n4 ≤ (↑k3 : Int)) ∧
      EvV Proofs.Try.prog (Builtin.append_ #[26, 26] 26 #[Value.slice (at0 k5) 0 0, Value.slice (slA a1 0 k3 4) (n4.toNat - Int.toNat 0) (k3 - Int.toNat 0)])
        (H.upd k5 (Obj.cells #[] 28)) fun v6 H7 =>
        ∃ a8 k9 k10,
        v6 = Value.slice a8 k9 k10 ∧
        Ob (0 ≤ IntKind.i64.wrap (n4 + 1) ∧ IntKind.i64.wrap (n4 + 1) ≤ (↑k2 : Int) ∧ (↑k2 : Int) ≤ (↑k3 : Int)) ∧
        EvV Proofs.Try.prog
        (Builtin.append_ #[26, 26] 26
        #[Value.slice a8 k9 k10, Value.slice (slA a1 (IntKind.i64.wrap (n4 + 1)) k3 4) ((↑k2 : Int).toNat - (IntKind.i64.wrap (n4 + 1)).toNat) (k3 - (IntKind.i64.wrap (n4 + 1)).toNat)])
        H7 fun v11 H12 => ∃ a13 k14 k15, v11 = Value.slice a13 k14 k15 ∧ Q (Value.slice a13 k14 k15) H12) :
    Triple Go.Proofs.Try.prog 12 ([Value.slice a1 k2 k3, Value.int IntKind.i64 n4]).toArray H Q :=
  Triple.of_vc refDrop.cx (by kernel_rfl) h

theorem findI.vc (a1 : Option Addr) (s2 : ByteArray) (n3 : Int) (H : PHeap) (Q : Value → PHeap → Prop)
    (h : Triple Proofs.Try.prog 20 #[Value.pointer a1, Value.agg #[Value.string s2, Value.int IntKind.i64 n3]] H fun v4 H5 =>
  ∃ n6 b7,
    v4 = Value.tuple #[Value.int IntKind.i64 n6, Value.bool b7] ∧
      ((!b7) = true → Q (Value.tuple #[Value.agg #[Value.string { data := #[] }, Value.int IntKind.i64 0, Value.int IntKind.i64 0, Value.int IntKind.i64 0], Value.bool false]) H5) ∧
        ((!b7) = false →
        Ob (a1 ≠ none) ∧
        Ob (a1 ≠ none) ∧
        ∃ a8 k9 k10,
        Reads H5 (fldA a1 0) [Value.slice a8 k9 k10] ∧
        Ob (a8 ≠ none ∧ 0 ≤ n6 ∧ n6 < (↑k9 : Int)) ∧
        ∃ s11 n12 n13 n14,
        Reads H5 (elemA a8 n6 4) [Value.string s11, Value.int IntKind.i64 n12, Value.int IntKind.i64 n13, Value.int IntKind.i64 n14] ∧
        Q (Value.tuple #[Value.agg #[Value.string s11, Value.int IntKind.i64 n12, Value.int IntKind.i64 n13, Value.int IntKind.i64 n14], Value.bool true]) H5)) :
    Triple Go.Proofs.Try.prog 13 ([Value.pointer a1, Value.agg #[Value.string s2, Value.int IntKind.i64 n3]]).toArray H Q :=
  Triple.of_vc findI.cx (by kernel_rfl) h

theorem sameI.vc (a1 : Option Addr) (k2 : Nat) (k3 : Nat) (a4 : Option Addr) (k5 : Nat) (k6 : Nat) (H : PHeap) (Q : Value → PHeap → Prop)
    (h : (((↑k2 : Int) != (↑k5 : Int)) = true → Q (Value.bool false) H) ∧
  (((↑k2 : Int) != (↑k5 : Int)) = false →
    ∃ (R7 : Rl) (M8 : Mu),
      R7 [Value.int IntKind.i64 0] H ∧
        ∀ (n9 : Int) (H10 : PHeap),
        R7 [Value.int IntKind.i64 n9] H10 →
        (decide (n9 < (↑k2 : Int)) = true →
        ∃ H11,
        Vx.Sub H11 H10 ∧
        Ob (a1 ≠ none ∧ 0 ≤ n9 ∧ n9 < (↑k2 : Int)) ∧
        ∃ s12 n13 n14 n15,
        Reads H11 (elemA a1 n9 4) [Value.string s12, Value.int IntKind.i64 n13, Value.int IntKind.i64 n14, Value.int IntKind.i64 n15] ∧
        Ob (a4 ≠ none ∧ 0 ≤ n9 ∧ n9 < (↑k5 : Int)) ∧
        ∃ s16 n17 n18 n19,
        Reads H11 (elemA a4 n9 4) [Value.string s16, Value.int IntKind.i64 n17, Value.int IntKind.i64 n18, Value.int IntKind.i64 n19] ∧
        Triple Proofs.Try.prog 8 #[Value.agg #[Value.string s16, Value.int IntKind.i64 n17, Value.int IntKind.i64 n18, Value.int IntKind.i64 n19]] H10 fun v20 H21 =>
        ∃ s22 n23 n24 n25,
        v20 = Value.agg #[Value.string s22, Value.int IntKind.i64 n23, Value.int IntKind.i64 n24, Value.int IntKind.i64 n25] ∧
        Vx.Sub H11 H21 ∧
        ((!(eqS s12 s22 && n13 == n23 && (n14 == n24 && n15 == n25))) = true → Q (Value.bool false) H21) ∧
        ((!(eqS s12 s22 && n13 == n23 && (n14 == n24 && n15 == n25))) = false →
        R7 [Value.int IntKind.i64 (IntKind.i64.wrap (n9 + 1))] H21 ∧
        Less (M8 [Value.int IntKind.i64 (IntKind.i64.wrap (n9 + 1))] H21) (M8 [Value.int IntKind.i64 n9] H10))) ∧
        (decide (n9 < (↑k2 : Int)) = false → Q (Value.bool true) H10))) :
    Triple Go.Proofs.Try.prog 14 ([Value.slice a1 k2 k3, Value.slice a4 k5 k6]).toArray H Q :=
  Triple.of_vc sameI.cx (by kernel_rfl) h

theorem allI.vc (a1 : Option Addr) (H : PHeap) (Q : Value → PHeap → Prop)
    (h : (a1.isNone = true → Q (Value.slice none 0 0) H) ∧
  (a1.isNone = false →
    Ob (a1 ≠ none) ∧
      Ob (a1 ≠ none) ∧
        ∃ a2 k3 k4, Reads H (fldA a1 0) [Value.slice a2 k3 k4] ∧ Triple Proofs.Try.prog 24 #[Value.slice a2 k3 k4] H fun v5 H6 => ∃ a7 k8 k9, v5 = Value.slice a7 k8 k9 ∧ Q (Value.slice a7 k8 k9) H6)) :
    Triple Go.Proofs.Try.prog 15 ([Value.pointer a1]).toArray H Q :=
  Triple.of_vc allI.cx (by kernel_rfl) h

theorem namesI.vc (a1 : Option Addr) (H : PHeap) (Q : Value → PHeap → Prop)
    (h : Triple Proofs.Try.prog 15 #[Value.pointer a1] H fun v2 H3 =>
  ∃ a4 k5 k6,
    v2 = Value.slice a4 k5 k6 ∧
      ∃ (R7 : Rl) (M8 : Mu),
        R7 [Value.slice none 0 0, Value.int IntKind.i64 0] H3 ∧
        ∀ (a9 : Option Addr) (k10 k11 : Nat) (n12 : Int) (H13 : PHeap),
        R7 [Value.slice a9 k10 k11, Value.int IntKind.i64 n12] H13 →
        (decide (n12 < (↑k5 : Int)) = true →
        Ob (a4 ≠ none ∧ 0 ≤ n12 ∧ n12 < (↑k5 : Int)) ∧
        ∃ s14 n15 n16 n17,
        Reads H13 (elemA a4 n12 4) [Value.string s14, Value.int IntKind.i64 n15, Value.int IntKind.i64 n16, Value.int IntKind.i64 n17] ∧
        ∃ H18,
        Vx.Sub H18 H13 ∧
        (((↑k10 : Int) == 0) = false →
        Ob (a9 ≠ none ∧ 0 ≤ IntKind.i64.wrap ((↑k10 : Int) - 1) ∧ IntKind.i64.wrap ((↑k10 : Int) - 1) < (↑k10 : Int)) ∧
        ∃ s19,
        Reads H18 (elemA a9 (IntKind.i64.wrap ((↑k10 : Int) - 1)) 1) [Value.string s19] ∧
        ((!eqS s19 s14) = true →
        ∀ (k20 : Nat),
        H13 k20 = none →
        EvV Proofs.Try.prog (Builtin.append_ #[46, 46] 46 #[Value.slice a9 k10 k11, Value.slice (at0 k20) 1 1])
        (H13.upd k20 (Obj.cells #[Value.string s14] 9)) fun v21 H22 =>
        ∃ a23 k24 k25,
        v21 = Value.slice a23 k24 k25 ∧
        R7 [Value.slice a23 k24 k25, Value.int IntKind.i64 (IntKind.i64.wrap (n12 + 1))] H22 ∧
        Less (M8 [Value.slice a23 k24 k25, Value.int IntKind.i64 (IntKind.i64.wrap (n12 + 1))] H22)
        (M8 [Value.slice a9 k10 k11, Value.int IntKind.i64 n12] H13)) ∧
        ((!eqS s19 s14) = false →
        R7 [Value.slice a9 k10 k11, Value.int IntKind.i64 (IntKind.i64.wrap (n12 + 1))] H13 ∧
        Less (M8 [Value.slice a9 k10 k11, Value.int IntKind.i64 (IntKind.i64.wrap (n12 + 1))] H13) (M8 [Value.slice a9 k10 k11, Value.int IntKind.i64 n12] H13))) ∧
        (((↑k10 : Int) == 0) = !false →
        ∀ (k26 : Nat),
        H13 k26 = none →
        EvV Proofs.Try.prog (Builtin.append_ #[46, 46] 46 #[Value.slice a9 k10 k11, Value.slice (at0 k26) 1 1])
        (H13.upd k26 (Obj.cells #[Value.string s14] 9)) fun v27 H28 =>
        ∃ a29 k30 k31,
        v27 = Value.slice a29 k30 k31 ∧
        R7 [Value.slice a29 k30 k31, Value.int IntKind.i64 (IntKind.i64.wrap (n12 + 1))] H28 ∧
        Less (M8 [Value.slice a29 k30 k31, Value.int IntKind.i64 (IntKind.i64.wrap (n12 + 1))] H28) (M8 [Value.slice a9 k10 k11, Value.int IntKind.i64 n12] H13))) ∧
        (decide (n12 < (↑k5 : Int)) = false → Q (Value.slice a9 k10 k11) H13)) :
    Triple Go.Proofs.Try.prog 17 ([Value.pointer a1]).toArray H Q :=
  Triple.of_vc namesI.cx (by kernel_rfl) h

theorem refNames.vc (a1 : Option Addr) (k2 : Nat) (k3 : Nat) (H : PHeap) (Q : Value → PHeap → Prop)
    (h : ∃ (R4 : Rl) (M5 : Mu),
  R4 [Value.slice none 0 0, Value.int IntKind.i64 0] H ∧
    ∀ (a6 : Option Addr) (k7 k8 : Nat) (n9 : Int) (H10 : PHeap),
      R4 [Value.slice a6 k7 k8, Value.int IntKind.i64 n9] H10 →
        (decide (n9 < (↑k2 : Int)) = true →
        Ob (a1 ≠ none ∧ 0 ≤ n9 ∧ n9 < (↑k2 : Int)) ∧
        Ob (elemA a1 n9 4 ≠ none) ∧
        ∃ s11,
        Reads H10 (fldA (elemA a1 n9 4) 0) [Value.string s11] ∧
        Triple Proofs.Try.prog 25 #[Value.slice a6 k7 k8, Value.string s11] H10 fun v12 H13 =>
        ∃ a14 k15 k16,
        v12 = Value.slice a14 k15 k16 ∧
        R4 [Value.slice a14 k15 k16, Value.int IntKind.i64 (IntKind.i64.wrap (n9 + 1))] H13 ∧
        Less (M5 [Value.slice a14 k15 k16, Value.int IntKind.i64 (IntKind.i64.wrap (n9 + 1))] H13) (M5 [Value.slice a6 k7 k8, Value.int IntKind.i64 n9] H10)) ∧
        (decide (n9 < (↑k2 : Int)) = false → Q (Value.slice a6 k7 k8) H10)) :
    Triple Go.Proofs.Try.prog 18 ([Value.slice a1 k2 k3]).toArray H Q :=
  Triple.of_vc refNames.cx (by kernel_rfl) h

theorem copyI.vc (a1 : Option Addr) (H : PHeap) (Q : Value → PHeap → Prop)
    (h : (a1.isNone = true → Q (Value.pointer none) H) ∧
  (a1.isNone = false →
    Ob (a1 ≠ none) ∧
      Ob (a1 ≠ none) ∧
        ∃ a2 k3 k4,
        Reads H (fldA a1 0) [Value.slice a2 k3 k4] ∧
        Triple Proofs.Try.prog 24 #[Value.slice a2 k3 k4] H fun v5 H6 =>
        ∃ a7 k8 k9, v5 = Value.slice a7 k8 k9 ∧ ∀ (k10 : Nat), H6 k10 = none → Q (Value.pointer (at0 k10)) (H6.upd k10 (Obj.cells #[Value.slice a7 k8 k9] 52)))) :
    Triple Go.Proofs.Try.prog 19 ([Value.pointer a1]).toArray H Q :=
  Triple.of_vc copyI.cx (by kernel_rfl) h

theorem placeI.vc (a1 : Option Addr) (s2 : ByteArray) (n3 : Int) (H : PHeap) (Q : Value → PHeap → Prop)
    (h : ∀ (k4 : Nat),
  H k4 = none →
    ∀ (k5 : Nat),
      H.upd k4 (Obj.cells #[Value.pointer a1] 24) k5 = none →
        ∃ a6,
        Reads ((H.upd k4 (Obj.cells #[Value.pointer a1] 24)).upd k5 (Obj.cells #[Value.string s2, Value.int IntKind.i64 n3] 33)) (at0 k4) [Value.pointer a6] ∧
        (a6.isNone = true →
        Q (Value.tuple #[Value.int IntKind.i64 0, Value.bool false]) ((H.upd k4 (Obj.cells #[Value.pointer a1] 24)).upd k5 (Obj.cells #[Value.string s2, Value.int IntKind.i64 n3] 33))) ∧
        (a6.isNone = false →
        ∃ a7,
        Reads ((H.upd k4 (Obj.cells #[Value.pointer a1] 24)).upd k5 (Obj.cells #[Value.string s2, Value.int IntKind.i64 n3] 33)) (at0 k4) [Value.pointer a7] ∧
        Ob (a7 ≠ none) ∧
        Ob (a7 ≠ none) ∧
        ∃ a8 k9 k10,
        Reads ((H.upd k4 (Obj.cells #[Value.pointer a1] 24)).upd k5 (Obj.cells #[Value.string s2, Value.int IntKind.i64 n3] 33)) (fldA a7 0) [Value.slice a8 k9 k10] ∧
        Triple Proofs.Try.prog 26
        #[Value.int IntKind.i64 (↑k9 : Int), Value.func (Fn.func 27) #[] #[Value.pointer (at0 k4), Value.pointer (at0 k5)]]
        ((H.upd k4 (Obj.cells #[Value.pointer a1] 24)).upd k5 (Obj.cells #[Value.string s2, Value.int IntKind.i64 n3] 33)) fun v11 H12 =>
        ∃ n13,
        v11 = Value.int IntKind.i64 n13 ∧
        ∃ H14,
        Vx.Sub H14 H12 ∧
        ∃ a15,
        Reads H14 (at0 k4) [Value.pointer a15] ∧
        Ob (a15 ≠ none) ∧
        Ob (a15 ≠ none) ∧
        ∃ a16 k17 k18,
        Reads H14 (fldA a15 0) [Value.slice a16 k17 k18] ∧
        (decide (n13 < (↑k17 : Int)) = true →
        ∃ a19,
        Reads H14 (at0 k4) [Value.pointer a19] ∧
        Ob (a19 ≠ none) ∧
        Ob (a19 ≠ none) ∧
        ∃ a20 k21 k22,
        Reads H14 (fldA a19 0) [Value.slice a20 k21 k22] ∧
        Ob (a20 ≠ none ∧ 0 ≤ n13 ∧ n13 < (↑k21 : Int)) ∧
        Ob (elemA a20 n13 4 ≠ none) ∧
        ∃ s23 n24,
        Reads H14 (fldA (elemA a20 n13 4) 0) [Value.string s23, Value.int IntKind.i64 n24] ∧
        ∃ s25 n26,
        Reads H14 (at0 k5) [Value.string s25, Value.int IntKind.i64 n26] ∧
        Q (Value.tuple #[Value.int IntKind.i64 n13, Value.bool (eqS s23 s25 && n24 == n26)]) H12) ∧
        (decide (n13 < (↑k17 : Int)) = !true → Q (Value.tuple #[Value.int IntKind.i64 n13, Value.bool false]) H12))) :
    Triple Go.Proofs.Try.prog 20 ([Value.pointer a1, Value.agg #[Value.string s2, Value.int IntKind.i64 n3]]).toArray H Q :=
  Triple.of_vc placeI.cx (by kernel_rfl) h

theorem insertI.vc (a1 : Option Addr) (k2 : Nat) (k3 : Nat) (n4 : Int) (a5 : Option Addr) (k6 : Nat) (k7 : Nat) (H : PHeap) (Q : Value → PHeap → Prop)
    (h : Ob (0 ≤ n4 ∧ n4 ≤ (↑k2 : Int) ∧ (↑k2 : Int) ≤ (↑k3 : Int)) ∧
  (((↑k6 : Int) == 0) = true → Q (Value.slice a1 k2 k3) H) ∧
    (((↑k6 : Int) == 0) = false →
      ((n4 == (↑k2 : Int)) = true →
        EvV Proofs.Try.prog (Builtin.append_ #[43, 43] 43 #[Value.slice a1 k2 k3, Value.slice a5 k6 k7]) H fun v8 H9 =>
        ∃ a10 k11 k12, v8 = Value.slice a10 k11 k12 ∧ Q (Value.slice a10 k11 k12) H9) ∧
        ((n4 == (↑k2 : Int)) = false →
        (decide (IntKind.i64.wrap ((↑k2 : Int) + (↑k6 : Int)) > (↑k3 : Int)) = true →
        Ob ((0 : Int) ≤ 0 ∧ 0 ≤ n4 ∧ n4 ≤ (↑k3 : Int)) ∧
        EvV Proofs.Try.prog
        (Builtin.append_ #[43, 3] 43
        #[Value.slice (slA a1 0 k3 4) (n4.toNat - Int.toNat 0) (k3 - Int.toNat 0), Value.int IntKind.i64 (IntKind.i64.wrap (IntKind.i64.wrap ((↑k2 : Int) + (↑k6 : Int)) - n4))])
        H fun v13 H14 =>
        ∃ a15 k16 k17,
        v13 = Value.slice a15 k16 k17 ∧
        Ob (0 ≤ n4 ∧ n4 ≤ (↑k16 : Int) ∧ (↑k16 : Int) ≤ (↑k17 : Int)) ∧
        EvV Proofs.Try.prog (Builtin.copy_ #[43, 43] 3 #[Value.slice (slA a15 n4 k17 4) ((↑k16 : Int).toNat - n4.toNat) (k17 - n4.toNat), Value.slice a5 k6 k7]) H14 fun v18 H19 =>
        ∃ n20,
        v18 = Value.int IntKind.i64 n20 ∧
        ∃ H21,
        Vx.Sub H21 H19 ∧
        Ob (0 ≤ IntKind.i64.wrap (n4 + (↑k6 : Int)) ∧ IntKind.i64.wrap (n4 + (↑k6 : Int)) ≤ (↑k16 : Int) ∧ (↑k16 : Int) ≤ (↑k17 : Int)) ∧
        Ob (0 ≤ n4 ∧ n4 ≤ (↑k2 : Int) ∧ (↑k2 : Int) ≤ (↑k3 : Int)) ∧
        EvV Proofs.Try.prog
        (Builtin.copy_ #[43, 43] 3
        #[Value.slice (slA a15 (IntKind.i64.wrap (n4 + (↑k6 : Int))) k17 4) ((↑k16 : Int).toNat - (IntKind.i64.wrap (n4 + (↑k6 : Int))).toNat)
        (k17 - (IntKind.i64.wrap (n4 + (↑k6 : Int))).toNat),
        Value.slice (slA a1 n4 k3 4) ((↑k2 : Int).toNat - n4.toNat) (k3 - n4.toNat)])
        H19 fun v22 H23 => ∃ n24, v22 = Value.int IntKind.i64 n24 ∧ Q (Value.slice a15 k16 k17) H23) ∧
        (decide (IntKind.i64.wrap ((↑k2 : Int) + (↑k6 : Int)) > (↑k3 : Int)) = false →
        Ob ((0 : Int) ≤ 0 ∧ 0 ≤ IntKind.i64.wrap ((↑k2 : Int) + (↑k6 : Int)) ∧ IntKind.i64.wrap ((↑k2 : Int) + (↑k6 : Int)) ≤ (↑k3 : Int)) ∧
        Ob
        (0 ≤ IntKind.i64.wrap (n4 + (↑k6 : Int)) ∧
        IntKind.i64.wrap (n4 + (↑k6 : Int)) ≤ (↑((IntKind.i64.wrap ((↑k2 : Int) + (↑k6 : Int))).toNat - Int.toNat 0) : Int) ∧
        (↑((IntKind.i64.wrap ((↑k2 : Int) + (↑k6 : Int))).toNat - Int.toNat 0) : Int) ≤ (↑(k3 - Int.toNat 0) : Int)) ∧
        ExtV Proofs.Try.prog 29
        #[Value.slice a5 k6 k7,
        Value.slice (slA (slA a1 0 k3 4) (IntKind.i64.wrap (n4 + (↑k6 : Int))) (k3 - Int.toNat 0) 4)
        ((↑((IntKind.i64.wrap ((↑k2 : Int) + (↑k6 : Int))).toNat - Int.toNat 0) : Int).toNat - (IntKind.i64.wrap (n4 + (↑k6 : Int))).toNat)
        (k3 - Int.toNat 0 - (IntKind.i64.wrap (n4 + (↑k6 : Int))).toNat)]
        H fun v25 H26 =>
        ∃ b27,
        v25 = Value.bool b27 ∧
        ((!b27) = true →
        ∃ H28,
        Vx.Sub H28 H26 ∧
        Ob
        (0 ≤ IntKind.i64.wrap (n4 + (↑k6 : Int)) ∧
        IntKind.i64.wrap (n4 + (↑k6 : Int)) ≤ (↑((IntKind.i64.wrap ((↑k2 : Int) + (↑k6 : Int))).toNat - Int.toNat 0) : Int) ∧
        (↑((IntKind.i64.wrap ((↑k2 : Int) + (↑k6 : Int))).toNat - Int.toNat 0) : Int) ≤ (↑(k3 - Int.toNat 0) : Int)) ∧
        Ob
        (0 ≤ n4 ∧
        n4 ≤ (↑((IntKind.i64.wrap ((↑k2 : Int) + (↑k6 : Int))).toNat - Int.toNat 0) : Int) ∧
        (↑((IntKind.i64.wrap ((↑k2 : Int) + (↑k6 : Int))).toNat - Int.toNat 0) : Int) ≤ (↑(k3 - Int.toNat 0) : Int)) ∧
        EvV Proofs.Try.prog
        (Builtin.copy_ #[43, 43] 3
        #[Value.slice (slA (slA a1 0 k3 4) (IntKind.i64.wrap (n4 + (↑k6 : Int))) (k3 - Int.toNat 0) 4)
        ((↑((IntKind.i64.wrap ((↑k2 : Int) + (↑k6 : Int))).toNat - Int.toNat 0) : Int).toNat - (IntKind.i64.wrap (n4 + (↑k6 : Int))).toNat)
        (k3 - Int.toNat 0 - (IntKind.i64.wrap (n4 + (↑k6 : Int))).toNat),
        Value.slice (slA (slA a1 0 k3 4) n4 (k3 - Int.toNat 0) 4) ((↑((IntKind.i64.wrap ((↑k2 : Int) + (↑k6 : Int))).toNat - Int.toNat 0) : Int).toNat - n4.toNat)
        (k3 - Int.toNat 0 - n4.toNat)])
        H26 fun v29 H30 =>
        ∃ n31,
        v29 = Value.int IntKind.i64 n31 ∧
        Ob
        (0 ≤ n4 ∧
        n4 ≤ (↑((IntKind.i64.wrap ((↑k2 : Int) + (↑k6 : Int))).toNat - Int.toNat 0) : Int) ∧
        (↑((IntKind.i64.wrap ((↑k2 : Int) + (↑k6 : Int))).toNat - Int.toNat 0) : Int) ≤ (↑(k3 - Int.toNat 0) : Int)) ∧
        EvV Proofs.Try.prog
        (Builtin.copy_ #[43, 43] 3
        #[Value.slice (slA (slA a1 0 k3 4) n4 (k3 - Int.toNat 0) 4)
        ((↑((IntKind.i64.wrap ((↑k2 : Int) + (↑k6 : Int))).toNat - Int.toNat 0) : Int).toNat - n4.toNat) (k3 - Int.toNat 0 - n4.toNat),
        Value.slice a5 k6 k7])
        H30 fun v32 H33 =>
        ∃ n34,
        v32 = Value.int IntKind.i64 n34 ∧
        Q (Value.slice (slA a1 0 k3 4) ((IntKind.i64.wrap ((↑k2 : Int) + (↑k6 : Int))).toNat - Int.toNat 0) (k3 - Int.toNat 0)) H33) ∧
        ((!b27) = false →
        Ob
        (0 ≤ (↑k2 : Int) ∧
        (↑k2 : Int) ≤ (↑((IntKind.i64.wrap ((↑k2 : Int) + (↑k6 : Int))).toNat - Int.toNat 0) : Int) ∧
        (↑((IntKind.i64.wrap ((↑k2 : Int) + (↑k6 : Int))).toNat - Int.toNat 0) : Int) ≤ (↑(k3 - Int.toNat 0) : Int)) ∧
        EvV Proofs.Try.prog
        (Builtin.copy_ #[43, 43] 3
        #[Value.slice (slA (slA a1 0 k3 4) (↑k2 : Int) (k3 - Int.toNat 0) 4)
        ((↑((IntKind.i64.wrap ((↑k2 : Int) + (↑k6 : Int))).toNat - Int.toNat 0) : Int).toNat - (↑k2 : Int).toNat) (k3 - Int.toNat 0 - (↑k2 : Int).toNat),
        Value.slice a5 k6 k7])
        H26 fun v35 H36 =>
        ∃ n37,
        v35 = Value.int IntKind.i64 n37 ∧
        Ob
        (0 ≤ n4 ∧
        n4 ≤ (↑((IntKind.i64.wrap ((↑k2 : Int) + (↑k6 : Int))).toNat - Int.toNat 0) : Int) ∧
        (↑((IntKind.i64.wrap ((↑k2 : Int) + (↑k6 : Int))).toNat - Int.toNat 0) : Int) ≤ (↑(k3 - Int.toNat 0) : Int)) ∧
        Triple Proofs.Try.prog 30
        #[Value.slice (slA (slA a1 0 k3 4) n4 (k3 - Int.toNat 0) 4) ((↑((IntKind.i64.wrap ((↑k2 : Int) + (↑k6 : Int))).toNat - Int.toNat 0) : Int).toNat - n4.toNat)
        (k3 - Int.toNat 0 - n4.toNat),
        Value.int IntKind.i64 (↑k6 : Int)]
        H36 fun v38 H39 =>
        v38 = Value.tuple #[] ∧ Q (Value.slice (slA a1 0 k3 4) ((IntKind.i64.wrap ((↑k2 : Int) + (↑k6 : Int))).toNat - Int.toNat 0) (k3 - Int.toNat 0)) H39))))) :
    Triple Go.Proofs.Try.prog 21 ([Value.slice a1 k2 k3, Value.int IntKind.i64 n4, Value.slice a5 k6 k7]).toArray H Q :=
  Triple.of_vc insertI.cx (by kernel_rfl) h

theorem refLess.vc (s1 : ByteArray) (n2 : Int) (n3 : Int) (n4 : Int) (s5 : ByteArray) (n6 : Int) (n7 : Int) (n8 : Int) (H : PHeap) (Q : Value → PHeap → Prop)
    (h : ((!eqS s1 s5) = true → Triple Proofs.Try.prog 31 #[Value.string s1, Value.string s5] H fun v9 H10 => ∃ b11, v9 = Value.bool b11 ∧ Q (Value.bool b11) H10) ∧
  ((!eqS s1 s5) = false → Q (Value.bool (decide (n2 < n6))) H)) :
    Triple Go.Proofs.Try.prog 22 ([Value.agg #[Value.string s1, Value.int IntKind.i64 n2, Value.int IntKind.i64 n3, Value.int IntKind.i64 n4],
  Value.agg #[Value.string s5, Value.int IntKind.i64 n6, Value.int IntKind.i64 n7, Value.int IntKind.i64 n8]]).toArray H Q :=
  Triple.of_vc refLess.cx (by kernel_rfl) h

theorem deleteI.vc (a1 : Option Addr) (k2 : Nat) (k3 : Nat) (n4 : Int) (n5 : Int) (H : PHeap) (Q : Value → PHeap → Prop)
    (h : Ob (0 ≤ n4 ∧ n4 ≤ n5 ∧ n5 ≤ (↑k2 : Int) ∧ (↑k2 : Int) ≤ (↑k3 : Int)) ∧
  ((n4 == n5) = true → Q (Value.slice a1 k2 k3) H) ∧
    ((n4 == n5) = false →
      ∃ H6,
        Vx.Sub H6 H ∧
        Ob ((0 : Int) ≤ 0 ∧ 0 ≤ n4 ∧ n4 ≤ (↑k3 : Int)) ∧
        Ob (0 ≤ n5 ∧ n5 ≤ (↑k2 : Int) ∧ (↑k2 : Int) ≤ (↑k3 : Int)) ∧
        EvV Proofs.Try.prog
        (Builtin.append_ #[43, 43] 43 #[Value.slice (slA a1 0 k3 4) (n4.toNat - Int.toNat 0) (k3 - Int.toNat 0), Value.slice (slA a1 n5 k3 4) ((↑k2 : Int).toNat - n5.toNat) (k3 - n5.toNat)]) H
        fun v7 H8 =>
        ∃ a9 k10 k11,
        v7 = Value.slice a9 k10 k11 ∧
        Ob (0 ≤ (↑k10 : Int) ∧ (↑k10 : Int) ≤ (↑k2 : Int) ∧ (↑k2 : Int) ≤ (↑k11 : Int)) ∧
        EvV Proofs.Try.prog (Builtin.clear_ #[43] 0 #[Value.slice (slA a9 (↑k10 : Int) k11 4) ((↑k2 : Int).toNat - (↑k10 : Int).toNat) (k11 - (↑k10 : Int).toNat)]) H8 fun v12 H13 =>
        Q (Value.slice a9 k10 k11) H13)) :
    Triple Go.Proofs.Try.prog 23 ([Value.slice a1 k2 k3, Value.int IntKind.i64 n4, Value.int IntKind.i64 n5]).toArray H Q :=
  Triple.of_vc deleteI.cx (by kernel_rfl) h

theorem cloneI.vc (a1 : Option Addr) (k2 : Nat) (k3 : Nat) (H : PHeap) (Q : Value → PHeap → Prop)
    (h : (a1.isNone = true → Q (Value.slice none 0 0) H) ∧
  (a1.isNone = false →
    ∀ (k4 : Nat),
      H k4 = none →
        EvV Proofs.Try.prog (Builtin.append_ #[43, 43] 43 #[Value.slice (at0 k4) 0 0, Value.slice a1 k2 k3]) (H.upd k4 (Obj.cells #[] 35)) fun v5 H6 =>
        ∃ a7 k8 k9, v5 = Value.slice a7 k8 k9 ∧ Q (Value.slice a7 k8 k9) H6)) :
    Triple Go.Proofs.Try.prog 24 ([Value.slice a1 k2 k3]).toArray H Q :=
  Triple.of_vc cloneI.cx (by kernel_rfl) h

theorem search.vc (n1 : Int) (v2 : Value) (H : PHeap) (Q : Value → PHeap → Prop)
    (h : ∃ (R3 : Rl) (M4 : Mu),
  R3 [Value.int IntKind.i64 0, Value.int IntKind.i64 n1] H ∧
    ∀ (n5 n6 : Int) (H7 : PHeap),
      R3 [Value.int IntKind.i64 n5, Value.int IntKind.i64 n6] H7 →
        (decide (n5 < n6) = true →
        Ob ((0 : Int) ≤ 1) ∧
        CallY Proofs.Try.prog v2 #[Value.int IntKind.i64 (IntKind.i64.wrap (shrI IntKind.u64 (IntKind.u64.wrap (IntKind.i64.wrap (n5 + n6))) 1))] H7 fun v8 H9 =>
        ∃ b10,
        v8 = Value.bool b10 ∧
        R3
        [Value.int IntKind.i64 (bif !b10 then IntKind.i64.wrap (IntKind.i64.wrap (shrI IntKind.u64 (IntKind.u64.wrap (IntKind.i64.wrap (n5 + n6))) 1) + 1) else n5),
        Value.int IntKind.i64 (bif !b10 then n6 else IntKind.i64.wrap (shrI IntKind.u64 (IntKind.u64.wrap (IntKind.i64.wrap (n5 + n6))) 1))]
        H9 ∧
        Less
        (M4
        [Value.int IntKind.i64 (bif !b10 then IntKind.i64.wrap (IntKind.i64.wrap (shrI IntKind.u64 (IntKind.u64.wrap (IntKind.i64.wrap (n5 + n6))) 1) + 1) else n5),
        Value.int IntKind.i64 (bif !b10 then n6 else IntKind.i64.wrap (shrI IntKind.u64 (IntKind.u64.wrap (IntKind.i64.wrap (n5 + n6))) 1))]
        H9)
        (M4 [Value.int IntKind.i64 n5, Value.int IntKind.i64 n6] H7)) ∧
        (decide (n5 < n6) = false → Q (Value.int IntKind.i64 n5) H7)) :
    Triple Go.Proofs.Try.prog 26 ([Value.int IntKind.i64 n1, v2]).toArray H Q :=
  Triple.of_vc search.cx (by kernel_rfl) h

theorem placeI1.vc (n1 : Int) (a2 : Option Addr) (a3 : Option Addr) (H : PHeap) (Q : Value → PHeap → Prop)
    (h : ∃ H4,
  Vx.Sub H4 H ∧
    ∃ a5,
      Reads H4 a2 [Value.pointer a5] ∧
        Ob (a5 ≠ none) ∧
        Ob (a5 ≠ none) ∧
        ∃ a6 k7 k8,
        Reads H4 (fldA a5 0) [Value.slice a6 k7 k8] ∧
        Ob (a6 ≠ none ∧ 0 ≤ n1 ∧ n1 < (↑k7 : Int)) ∧
        Ob (elemA a6 n1 4 ≠ none) ∧
        ∃ s9 n10,
        Reads H4 (fldA (elemA a6 n1 4) 0) [Value.string s9, Value.int IntKind.i64 n10] ∧
        ∃ s11 n12,
        Reads H4 a3 [Value.string s11, Value.int IntKind.i64 n12] ∧
        Triple Proofs.Try.prog 28 #[Value.agg #[Value.string s9, Value.int IntKind.i64 n10], Value.agg #[Value.string s11, Value.int IntKind.i64 n12]] H fun v13 H14 =>
        ∃ b15, v13 = Value.bool b15 ∧ Q (Value.bool !b15) H14) :
    Triple Go.Proofs.Try.prog 27 ([Value.int IntKind.i64 n1, Value.pointer a2, Value.pointer a3]).toArray H Q :=
  Triple.of_vc placeI1.cx (by kernel_rfl) h

theorem lessI.vc (s1 : ByteArray) (n2 : Int) (s3 : ByteArray) (n4 : Int) (H : PHeap) (Q : Value → PHeap → Prop)
    (h : ((!eqS s1 s3) = true → Triple Proofs.Try.prog 32 #[Value.string s1, Value.string s3] H fun v5 H6 => ∃ b7, v5 = Value.bool b7 ∧ Q (Value.bool b7) H6) ∧
  ((!eqS s1 s3) = false → Q (Value.bool (decide (n2 < n4))) H)) :
    Triple Go.Proofs.Try.prog 28 ([Value.agg #[Value.string s1, Value.int IntKind.i64 n2], Value.agg #[Value.string s3, Value.int IntKind.i64 n4]]).toArray H Q :=
  Triple.of_vc lessI.cx (by kernel_rfl) h

theorem labelLess.vc (s1 : ByteArray) (s2 : ByteArray) (H : PHeap) (Q : Value → PHeap → Prop)
    (h : Q (Value.bool (lessS s1 s2)) H) :
    Triple Go.Proofs.Try.prog 32 ([Value.string s1, Value.string s2]).toArray H Q :=
  Triple.of_vc labelLess.cx (by kernel_rfl) h

end Go.Vc
