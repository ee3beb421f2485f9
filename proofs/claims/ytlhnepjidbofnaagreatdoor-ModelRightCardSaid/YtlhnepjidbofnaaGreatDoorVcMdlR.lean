/- What is to be shown of each function, in its normal form. Printed by a program of this session's, checked by the kernel. -/
import Derived.Test.YtlhnepjidbofnaaGreatDoorE2
import Derived.Test.YtlhnepjidbofnaaGreatDoorProg
set_option linter.unusedVariables false
set_option maxRecDepth 100000
namespace Go.Vc
open Go.Vx Go
def rRight.cx : Cx := ⟨[], [(6, [6], [])], [], []⟩
def rNames.cx : Cx := ⟨[], [(3, [3, 4], [])], [], []⟩
def rOf.cx : Cx := ⟨[10], [(6, [8], [])], [], []⟩
def rSteps.cx : Cx := ⟨[], [(4, [6, 7, 8], [])], [], []⟩
def rWalk.cx : Cx := ⟨[], [(1, [10], [])], [], []⟩
def rOrder.cx : Cx := ⟨[], [(10, [8], [])], [], []⟩
def rCalled.cx : Cx := ⟨[], [(2, [5], [])], [], []⟩
def rFound.cx : Cx := ⟨[], [], [], []⟩
def rListed.cx : Cx := ⟨[], [], [], []⟩
def rForm.cx : Cx := ⟨[], [(6, [8], [])], [], []⟩
def rPlain.cx : Cx := ⟨[], [], [], []⟩
def rHas.cx : Cx := ⟨[], [(2, [5], [])], [], []⟩
def rSameOp.cx : Cx := ⟨[], [], [], []⟩
def rCheck.cx : Cx := ⟨[], [], [], []⟩
def refAdd.cx : Cx := ⟨[], [(2, [5], [])], [], []⟩
def refLessS.cx : Cx := ⟨[], [(2, [5], [])], [], []⟩
def refRight.cx : Cx := ⟨[], [(4, [3], [])], [], []⟩
def rSame.cx : Cx := ⟨[], [(4, [5], [])], [], []⟩
def right.cx : Cx := ⟨[], [(4, [18], [])], [], []⟩
def sign.cx : Cx := ⟨[], [], [], []⟩
def farS.cx : Cx := ⟨[], [(2, [3], [])], [], []⟩

theorem rRight.vc (a1 : Option Addr) (k2 : Nat) (k3 : Nat) (H : PHeap) (Q : Value → PHeap → Prop)
    (h : Triple Proofs.Tryz.prog 16 #[Value.slice a1 k2 k3, Value.string ({ data := #[] } : ByteArray)] H fun v4 H5 =>
  ∃ a6 k7 k8 b9,
    v4 = Value.tuple #[Value.slice a6 k7 k8, Value.bool b9] ∧
      ((!b9) = true → Q (Value.bool false) H5) ∧
        ((!b9) = false →
        Triple Proofs.Tryz.prog 9 #[Value.slice a1 k2 k3] H5 fun v10 H11 =>
        ∃ a12 k13 k14,
        v10 = Value.slice a12 k13 k14 ∧
        ∃ (R15 : Rl) (M16 : Mu),
        R15 [Value.int IntKind.i64 0] H11 ∧
        ∀ (n17 : Int) (H18 : PHeap),
        R15 [Value.int IntKind.i64 n17] H18 →
        (decide (n17 < (↑k13 : Int)) = true →
        Ob (a12 ≠ none ∧ 0 ≤ n17 ∧ n17 < (↑k13 : Int)) ∧
        ∃ s19,
        Reads H18 (elemA a12 n17 1) [Value.string s19] ∧
        Triple Proofs.Tryz.prog 10 #[Value.slice a1 k2 k3, Value.string s19] H18 fun v20 H21 =>
        ∃ a22,
        v20 = Value.pointer a22 ∧
        Ob (a22 ≠ none) ∧
        Ob (a22 ≠ none) ∧
        ∃ b23,
        Reads H21 (fldA a22 0) [Value.bool b23] ∧
        ((!b23) = true → Q (Value.bool false) H21) ∧
        ((!b23) = false →
        R15 [Value.int IntKind.i64 (IntKind.i64.wrap (n17 + 1))] H21 ∧
        Less (M16 [Value.int IntKind.i64 (IntKind.i64.wrap (n17 + 1))] H21) (M16 [Value.int IntKind.i64 n17] H18))) ∧
        (decide (n17 < (↑k13 : Int)) = false → Q (Value.bool true) H18))) :
    Triple Go.Proofs.Tryz.prog 7 ([Value.slice a1 k2 k3]).toArray H Q :=
  Triple.of_vc rRight.cx (by kernel_rfl) h

theorem rNames.vc (a1 : Option Addr) (k2 : Nat) (k3 : Nat) (H : PHeap) (Q : Value → PHeap → Prop)
    (h : ∃ (R4 : Rl) (M5 : Mu),
  R4 [Value.slice none 0 0, Value.int IntKind.i64 0] H ∧
    ∀ (a6 : Option Addr) (k7 k8 : Nat) (n9 : Int) (H10 : PHeap),
      R4 [Value.slice a6 k7 k8, Value.int IntKind.i64 n9] H10 →
        (decide (n9 < (↑k2 : Int)) = true →
        Ob (a1 ≠ none ∧ 0 ≤ n9 ∧ n9 < (↑k2 : Int)) ∧
        Ob (elemA a1 n9 10 ≠ none) ∧
        ∃ n11,
        Reads H10 (fldA (elemA a1 n9 10) 0) [Value.int IntKind.i64 n11] ∧
        ((n11 == 1) = true →
        Ob (a1 ≠ none ∧ 0 ≤ n9 ∧ n9 < (↑k2 : Int)) ∧
        Ob (elemA a1 n9 10 ≠ none) ∧
        Ob (fldA (elemA a1 n9 10) 3 ≠ none) ∧
        ∃ n12,
        Reads H10 (fldA (fldA (elemA a1 n9 10) 3) 0) [Value.int IntKind.i64 n12] ∧
        ((n12 != 4) = true →
        Ob (a1 ≠ none ∧ 0 ≤ n9 ∧ n9 < (↑k2 : Int)) ∧
        Ob (elemA a1 n9 10 ≠ none) ∧
        Ob (fldA (elemA a1 n9 10) 3 ≠ none) ∧
        ∃ s13,
        Reads H10 (fldA (fldA (elemA a1 n9 10) 3) 1) [Value.string s13] ∧
        Triple Proofs.Tryz.prog 11 #[Value.slice a6 k7 k8, Value.string s13] H10 fun v14 H15 =>
        ∃ a16 k17 k18,
        v14 = Value.slice a16 k17 k18 ∧
        R4 [Value.slice a16 k17 k18, Value.int IntKind.i64 (IntKind.i64.wrap (n9 + 1))] H15 ∧
        Less (M5 [Value.slice a16 k17 k18, Value.int IntKind.i64 (IntKind.i64.wrap (n9 + 1))] H15)
        (M5 [Value.slice a6 k7 k8, Value.int IntKind.i64 n9] H10)) ∧
        ((n12 != 4) = false →
        R4 [Value.slice a6 k7 k8, Value.int IntKind.i64 (IntKind.i64.wrap (n9 + 1))] H10 ∧
        Less (M5 [Value.slice a6 k7 k8, Value.int IntKind.i64 (IntKind.i64.wrap (n9 + 1))] H10) (M5 [Value.slice a6 k7 k8, Value.int IntKind.i64 n9] H10))) ∧
        ((n11 == 1) = !true →
        R4 [Value.slice a6 k7 k8, Value.int IntKind.i64 (IntKind.i64.wrap (n9 + 1))] H10 ∧
        Less (M5 [Value.slice a6 k7 k8, Value.int IntKind.i64 (IntKind.i64.wrap (n9 + 1))] H10) (M5 [Value.slice a6 k7 k8, Value.int IntKind.i64 n9] H10))) ∧
        (decide (n9 < (↑k2 : Int)) = false → Q (Value.slice a6 k7 k8) H10)) :
    Triple Go.Proofs.Tryz.prog 9 ([Value.slice a1 k2 k3]).toArray H Q :=
  Triple.of_vc rNames.cx (by kernel_rfl) h

theorem rOf.vc (a1 : Option Addr) (k2 : Nat) (k3 : Nat) (s4 : ByteArray) (H : PHeap) (Q : Value → PHeap → Prop)
    (h : ∀ (k5 : Nat),
  H k5 = none →
    Triple Proofs.Tryz.prog 16 #[Value.slice a1 k2 k3, Value.string s4] (H.upd k5 (Obj.cells #[Value.bool false, Value.bool false, Value.slice none 0 0] 43)) fun v6 H7 =>
      ∃ a8 k9 k10 b11,
        v6 = Value.tuple #[Value.slice a8 k9 k10, Value.bool b11] ∧
        ((!b11) = true → Q (Value.pointer (at0 k5)) H7) ∧
        ((!b11) = false →
        ∃ (R12 : Rl) (M13 : Mu),
        R12 [Value.int IntKind.i64 0] H7 ∧
        ∀ (n14 : Int) (H15 : PHeap),
        R12 [Value.int IntKind.i64 n14] H15 →
        (decide (n14 < (↑k9 : Int)) = true →
        Ob (a8 ≠ none ∧ 0 ≤ n14 ∧ n14 < (↑k9 : Int)) ∧
        Ob (elemA a8 n14 8 ≠ none) ∧
        ∃ n16,
        Reads H15 (fldA (elemA a8 n14 8) 0) [Value.int IntKind.i64 n16] ∧
        ((n16 == 3) = true →
        Ob (a8 ≠ none ∧ 0 ≤ n14 ∧ n14 < (↑k9 : Int)) ∧
        Ob (elemA a8 n14 8 ≠ none) ∧
        Ob (fldA (elemA a8 n14 8) 1 ≠ none) ∧
        ∃ H17,
        Writes H15 H17 (fldA (fldA (elemA a8 n14 8) 1) 1) [Value.string s4] ∧
        R12 [Value.int IntKind.i64 (IntKind.i64.wrap (n14 + 1))] H17 ∧
        Less (M13 [Value.int IntKind.i64 (IntKind.i64.wrap (n14 + 1))] H17) (M13 [Value.int IntKind.i64 n14] H15)) ∧
        ((n16 == 3) = false →
        R12 [Value.int IntKind.i64 (IntKind.i64.wrap (n14 + 1))] H15 ∧
        Less (M13 [Value.int IntKind.i64 (IntKind.i64.wrap (n14 + 1))] H15) (M13 [Value.int IntKind.i64 n14] H15))) ∧
        (decide (n14 < (↑k9 : Int)) = false →
        Triple Proofs.Tryz.prog 23 #[Value.pointer (at0 k5), Value.slice a8 k9 k10, Value.bool false, Value.string ({ data := #[] } : ByteArray), Value.slice none 0 0] H15
        fun v18 H19 => v18 = Value.tuple #[] ∧ Q (Value.pointer (at0 k5)) H19))) :
    Triple Go.Proofs.Tryz.prog 10 ([Value.slice a1 k2 k3, Value.string s4]).toArray H Q :=
  Triple.of_vc rOf.cx (by kernel_rfl) h

theorem rSteps.vc (a1 : Option Addr) (k2 : Nat) (k3 : Nat) (s4 : ByteArray) (H : PHeap) (Q : Value → PHeap → Prop)
    (h : ∃ (R5 : Rl) (M6 : Mu),
  R5 [Value.slice none 0 0, Value.slice none 0 0, Value.int IntKind.i64 0] H ∧
    ∀ (a7 : Option Addr) (k8 k9 : Nat) (a10 : Option Addr) (k11 k12 : Nat) (n13 : Int) (H14 : PHeap),
      R5 [Value.slice a7 k8 k9, Value.slice a10 k11 k12, Value.int IntKind.i64 n13] H14 →
        (decide (n13 < (↑k2 : Int)) = true →
        Ob (a1 ≠ none ∧ 0 ≤ n13 ∧ n13 < (↑k2 : Int)) ∧
        ∃ n15 n16 n17 n18 s19 a20 k21 k22 n23 n24 a25 k26 k27 a28 k29 k30,
        Reads H14 (elemA a1 n13 10)
        [Value.int IntKind.i64 n15, Value.int IntKind.i64 n16, Value.int IntKind.i64 n17, Value.int IntKind.i64 n18, Value.string s19, Value.slice a20 k21 k22, Value.int IntKind.i64 n23,
        Value.int IntKind.i64 n24, Value.slice a25 k26 k27, Value.slice a28 k29 k30] ∧
        Triple Proofs.Tryz.prog 29
        #[Value.slice a7 k8 k9,
        Value.agg
        #[Value.int IntKind.i64 n15, Value.int IntKind.i64 n16, Value.int IntKind.i64 n17, Value.int IntKind.i64 n18, Value.string s19, Value.slice a20 k21 k22,
        Value.int IntKind.i64 n23, Value.int IntKind.i64 n24, Value.slice a25 k26 k27, Value.slice a28 k29 k30]]
        H14 fun v31 H32 =>
        ∃ a33 k34 k35 b36,
        v31 = Value.tuple #[Value.slice a33 k34 k35, Value.bool b36] ∧
        ((!b36) = true → Q (Value.tuple #[Value.slice none 0 0, Value.bool false]) H32) ∧
        ((!b36) = false →
        Ob (a1 ≠ none ∧ 0 ≤ n13 ∧ n13 < (↑k2 : Int)) ∧
        ∃ n37 n38 n39 n40 s41 a42 k43 k44 n45 n46 a47 k48 k49 a50 k51 k52,
        Reads H32 (elemA a1 n13 10)
        [Value.int IntKind.i64 n37, Value.int IntKind.i64 n38, Value.int IntKind.i64 n39, Value.int IntKind.i64 n40, Value.string s41, Value.slice a42 k43 k44,
        Value.int IntKind.i64 n45, Value.int IntKind.i64 n46, Value.slice a47 k48 k49, Value.slice a50 k51 k52] ∧
        (decide (n37 > 2) = true →
        Ob (a7 ≠ none ∧ 0 ≤ n38 ∧ n38 < (↑k8 : Int)) ∧
        Ob (elemA a7 n38 5 ≠ none) ∧
        ∃ b53,
        Reads H32 (fldA (elemA a7 n38 5) 3) [Value.bool b53] ∧
        (b53 = true →
        Ob (a7 ≠ none ∧ 0 ≤ n38 ∧ n38 < (↑k8 : Int)) ∧
        Ob (elemA a7 n38 5 ≠ none) ∧
        ∃ n54 s55 a56 k57 k58,
        Reads H32 (fldA (elemA a7 n38 5) 0) [Value.int IntKind.i64 n54, Value.string s55, Value.slice a56 k57 k58] ∧
        ((bif bif n54 != 4 then eqS s55 s4 else false then
        bif n54 == 1 then bif n37 == 4 then true else n45 == 13 else bif n54 == 3 then bif n37 == 4 then true else n45 == 13 else false
        else false) =
        true →
        ∀ (k59 : Nat),
        H32 k59 = none →
        EvV Proofs.Tryz.prog (Builtin.append_ #[52, 52] 52 #[Value.slice a10 k11 k12, Value.slice (at0 k59) 1 1])
        (H32.upd k59
        (Obj.cells
        #[Value.int IntKind.i64 1, Value.int IntKind.i64 n54, Value.string s55, Value.slice a56 k57 k58, Value.int IntKind.i64 0,
        Value.int IntKind.i64 0, Value.slice none 0 0, Value.slice none 0 0]
        64))
        fun v60 H61 =>
        ∃ a62 k63 k64,
        v60 = Value.slice a62 k63 k64 ∧
        R5 [Value.slice a33 k34 k35, Value.slice a62 k63 k64, Value.int IntKind.i64 (IntKind.i64.wrap (n13 + 1))] H61 ∧
        Less (M6 [Value.slice a33 k34 k35, Value.slice a62 k63 k64, Value.int IntKind.i64 (IntKind.i64.wrap (n13 + 1))] H61)
        (M6 [Value.slice a7 k8 k9, Value.slice a10 k11 k12, Value.int IntKind.i64 n13] H14)) ∧
        ((bif bif n54 != 4 then eqS s55 s4 else false then
        bif n54 == 1 then bif n37 == 4 then true else n45 == 13 else bif n54 == 3 then bif n37 == 4 then true else n45 == 13 else false
        else false) =
        false →
        ((bif bif n54 != 4 then eqS s55 s4 else false then n37 == 3 else false) = true →
        ∀ (k65 : Nat),
        H32 k65 = none →
        EvV Proofs.Tryz.prog (Builtin.append_ #[52, 52] 52 #[Value.slice a10 k11 k12, Value.slice (at0 k65) 1 1])
        (H32.upd k65
        (Obj.cells
        #[Value.int IntKind.i64 2, Value.int IntKind.i64 n54, Value.string s55, Value.slice a56 k57 k58, Value.int IntKind.i64 n45,
        Value.int IntKind.i64 n46, Value.slice a47 k48 k49, Value.slice a50 k51 k52]
        64))
        fun v66 H67 =>
        ∃ a68 k69 k70,
        v66 = Value.slice a68 k69 k70 ∧
        R5 [Value.slice a33 k34 k35, Value.slice a68 k69 k70, Value.int IntKind.i64 (IntKind.i64.wrap (n13 + 1))] H67 ∧
        Less (M6 [Value.slice a33 k34 k35, Value.slice a68 k69 k70, Value.int IntKind.i64 (IntKind.i64.wrap (n13 + 1))] H67)
        (M6 [Value.slice a7 k8 k9, Value.slice a10 k11 k12, Value.int IntKind.i64 n13] H14)) ∧
        ((bif bif n54 != 4 then eqS s55 s4 else false then n37 == 3 else false) = false →
        ((n54 == 4) = true →
        ((n37 == 3) = true →
        ((n45 == 0) = true →
        Triple Proofs.Tryz.prog 30 #[Value.slice a7 k8 k9, Value.string s4] H32 fun v71 H72 =>
        ∃ b73,
        v71 = Value.bool b73 ∧
        (b73 = true →
        ∀ (k74 : Nat),
        H72 k74 = none →
        EvV Proofs.Tryz.prog
        (Builtin.append_ #[52, 52] 52
        #[Value.slice a10 k11 k12, Value.slice (at0 k74) 1 1])
        (H72.upd k74
        (Obj.cells
        #[Value.int IntKind.i64 3, Value.int IntKind.i64 0, Value.string ({ data := #[] } : ByteArray),
        Value.slice none 0 0, Value.int IntKind.i64 n45, Value.int IntKind.i64 n46, Value.slice a47 k48 k49,
        Value.slice a50 k51 k52]
        64))
        fun v75 H76 =>
        ∃ a77 k78 k79,
        v75 = Value.slice a77 k78 k79 ∧
        R5
        [Value.slice a33 k34 k35, Value.slice a77 k78 k79,
        Value.int IntKind.i64 (IntKind.i64.wrap (n13 + 1))]
        H76 ∧
        Less
        (M6
        [Value.slice a33 k34 k35, Value.slice a77 k78 k79,
        Value.int IntKind.i64 (IntKind.i64.wrap (n13 + 1))]
        H76)
        (M6 [Value.slice a7 k8 k9, Value.slice a10 k11 k12, Value.int IntKind.i64 n13] H14)) ∧
        (b73 = false →
        R5 [Value.slice a33 k34 k35, Value.slice a10 k11 k12, Value.int IntKind.i64 (IntKind.i64.wrap (n13 + 1))] H72 ∧
        Less
        (M6 [Value.slice a33 k34 k35, Value.slice a10 k11 k12, Value.int IntKind.i64 (IntKind.i64.wrap (n13 + 1))]
        H72)
        (M6 [Value.slice a7 k8 k9, Value.slice a10 k11 k12, Value.int IntKind.i64 n13] H14))) ∧
        ((n45 == 0) = !true →
        R5 [Value.slice a33 k34 k35, Value.slice a10 k11 k12, Value.int IntKind.i64 (IntKind.i64.wrap (n13 + 1))] H32 ∧
        Less (M6 [Value.slice a33 k34 k35, Value.slice a10 k11 k12, Value.int IntKind.i64 (IntKind.i64.wrap (n13 + 1))] H32)
        (M6 [Value.slice a7 k8 k9, Value.slice a10 k11 k12, Value.int IntKind.i64 n13] H14))) ∧
        ((n37 == 3) = !true →
        R5 [Value.slice a33 k34 k35, Value.slice a10 k11 k12, Value.int IntKind.i64 (IntKind.i64.wrap (n13 + 1))] H32 ∧
        Less (M6 [Value.slice a33 k34 k35, Value.slice a10 k11 k12, Value.int IntKind.i64 (IntKind.i64.wrap (n13 + 1))] H32)
        (M6 [Value.slice a7 k8 k9, Value.slice a10 k11 k12, Value.int IntKind.i64 n13] H14))) ∧
        ((n54 == 4) = !true →
        R5 [Value.slice a33 k34 k35, Value.slice a10 k11 k12, Value.int IntKind.i64 (IntKind.i64.wrap (n13 + 1))] H32 ∧
        Less (M6 [Value.slice a33 k34 k35, Value.slice a10 k11 k12, Value.int IntKind.i64 (IntKind.i64.wrap (n13 + 1))] H32)
        (M6 [Value.slice a7 k8 k9, Value.slice a10 k11 k12, Value.int IntKind.i64 n13] H14))))) ∧
        (b53 = false →
        R5 [Value.slice a33 k34 k35, Value.slice a10 k11 k12, Value.int IntKind.i64 (IntKind.i64.wrap (n13 + 1))] H32 ∧
        Less (M6 [Value.slice a33 k34 k35, Value.slice a10 k11 k12, Value.int IntKind.i64 (IntKind.i64.wrap (n13 + 1))] H32)
        (M6 [Value.slice a7 k8 k9, Value.slice a10 k11 k12, Value.int IntKind.i64 n13] H14))) ∧
        (decide (n37 > 2) = !true →
        R5 [Value.slice a33 k34 k35, Value.slice a10 k11 k12, Value.int IntKind.i64 (IntKind.i64.wrap (n13 + 1))] H32 ∧
        Less (M6 [Value.slice a33 k34 k35, Value.slice a10 k11 k12, Value.int IntKind.i64 (IntKind.i64.wrap (n13 + 1))] H32)
        (M6 [Value.slice a7 k8 k9, Value.slice a10 k11 k12, Value.int IntKind.i64 n13] H14)))) ∧
        (decide (n13 < (↑k2 : Int)) = false → Q (Value.tuple #[Value.slice a10 k11 k12, Value.bool true]) H14)) :
    Triple Go.Proofs.Tryz.prog 16 ([Value.slice a1 k2 k3, Value.string s4]).toArray H Q :=
  Triple.of_vc rSteps.cx (by kernel_rfl) h

theorem rWalk.vc (a1 : Option Addr) (a2 : Option Addr) (k3 : Nat) (k4 : Nat) (b5 : Bool) (s6 : ByteArray) (a7 : Option Addr) (k8 : Nat) (k9 : Nat) (H : PHeap) (Q : Value → PHeap → Prop)
    (h : ∃ (R10 : Rl) (M11 : Mu),
  R10 [Value.int IntKind.i64 0] H ∧
    ∀ (n12 : Int) (H13 : PHeap),
      R10 [Value.int IntKind.i64 n12] H13 →
        (decide (n12 < (↑k8 : Int)) = true →
        Ob (a7 ≠ none ∧ 0 ≤ n12 ∧ n12 < (↑k8 : Int)) ∧
        Ob (elemA a7 n12 2 ≠ none) ∧
        ∃ b14,
        Reads H13 (fldA (elemA a7 n12 2) 0) [Value.bool b14] ∧
        ((!b14 == b5) = true →
        ∃ H15,
        Vx.Sub H15 H13 ∧
        Ob ((0 : Int) ≤ 0 ∧ 0 ≤ n12 ∧ n12 ≤ (↑k9 : Int)) ∧
        Ob (0 ≤ IntKind.i64.wrap (n12 + 1) ∧ IntKind.i64.wrap (n12 + 1) ≤ (↑k8 : Int) ∧ (↑k8 : Int) ≤ (↑k9 : Int)) ∧
        ∀ (k16 : Nat),
        H13 k16 = none →
        EvV Proofs.Tryz.prog
        (Builtin.append_ #[91, 91] 91 #[Value.slice (at0 k16) 0 0, Value.slice (slA a7 0 k9 2) (n12.toNat - Int.toNat 0) (k9 - Int.toNat 0)])
        (H13.upd k16 (Obj.cells #[] 93)) fun v17 H18 =>
        ∃ a19 k20 k21,
        v17 = Value.slice a19 k20 k21 ∧
        EvV Proofs.Tryz.prog
        (Builtin.append_ #[91, 91] 91
        #[Value.slice a19 k20 k21,
        Value.slice (slA a7 (IntKind.i64.wrap (n12 + 1)) k9 2) ((↑k8 : Int).toNat - (IntKind.i64.wrap (n12 + 1)).toNat)
        (k9 - (IntKind.i64.wrap (n12 + 1)).toNat)])
        H18 fun v22 H23 =>
        ∃ a24 k25 k26,
        v22 = Value.slice a24 k25 k26 ∧
        ∃ H27,
        Vx.Sub H27 H23 ∧
        Ob (a7 ≠ none ∧ 0 ≤ n12 ∧ n12 < (↑k8 : Int)) ∧
        Ob (elemA a7 n12 2 ≠ none) ∧
        ∃ b28,
        Reads H27 (fldA (elemA a7 n12 2) 0) [Value.bool b28] ∧
        Ob (a7 ≠ none ∧ 0 ≤ n12 ∧ n12 < (↑k8 : Int)) ∧
        Ob (elemA a7 n12 2 ≠ none) ∧
        ∃ s29,
        Reads H27 (fldA (elemA a7 n12 2) 1) [Value.string s29] ∧
        Triple Proofs.Tryz.prog 23 #[Value.pointer a1, Value.slice a2 k3 k4, Value.bool b28, Value.string s29, Value.slice a24 k25 k26] H23
        fun v30 H31 =>
        v30 = Value.tuple #[] ∧
        R10 [Value.int IntKind.i64 (IntKind.i64.wrap (n12 + 1))] H31 ∧
        Less (M11 [Value.int IntKind.i64 (IntKind.i64.wrap (n12 + 1))] H31) (M11 [Value.int IntKind.i64 n12] H13)) ∧
        ((!b14 == b5) = false →
        R10 [Value.int IntKind.i64 (IntKind.i64.wrap (n12 + 1))] H13 ∧ Less (M11 [Value.int IntKind.i64 (IntKind.i64.wrap (n12 + 1))] H13) (M11 [Value.int IntKind.i64 n12] H13))) ∧
        (decide (n12 < (↑k8 : Int)) = false →
        (((↑k3 : Int) == 0) = true → Triple Proofs.Tryz.prog 38 #[Value.pointer a1, Value.bool b5, Value.string s6] H13 fun v32 H33 => v32 = Value.tuple #[] ∧ Q (Value.tuple #[]) H33) ∧
        (((↑k3 : Int) == 0) = false →
        Ob (a2 ≠ none ∧ (0 : Int) ≤ 0 ∧ 0 < (↑k3 : Int)) ∧
        ∃ n34 n35 s36 a37 k38 k39 n40 n41 a42 k43 k44 a45 k46 k47,
        Reads H13 (elemA a2 0 8)
        [Value.int IntKind.i64 n34, Value.int IntKind.i64 n35, Value.string s36, Value.slice a37 k38 k39, Value.int IntKind.i64 n40, Value.int IntKind.i64 n41, Value.slice a42 k43 k44,
        Value.slice a45 k46 k47] ∧
        ((n34 == 1) = true →
        EvV Proofs.Tryz.prog (convert 29 9 (Value.slice a37 k38 k39)) H13 fun v48 H49 =>
        ∃ s50,
        v48 = Value.string s50 ∧
        ∃ H51,
        Vx.Sub H51 H49 ∧
        Ob ((0 : Int) ≤ 1 ∧ 1 ≤ (↑k3 : Int) ∧ (↑k3 : Int) ≤ (↑k4 : Int)) ∧
        ∀ (k52 : Nat),
        H49 k52 = none →
        Vx.Sub H51 (H49.upd k52 (Obj.cells #[] 93)) ∧
        EvV Proofs.Tryz.prog (Builtin.append_ #[91, 91] 91 #[Value.slice (at0 k52) 0 0, Value.slice a7 k8 k9])
        (H49.upd k52 (Obj.cells #[] 93)) fun v53 H54 =>
        ∃ a55 k56 k57,
        v53 = Value.slice a55 k56 k57 ∧
        Vx.Sub H51 H54 ∧
        ∀ (k58 : Nat),
        H54 k58 = none →
        EvV Proofs.Tryz.prog (Builtin.append_ #[91, 91] 91 #[Value.slice a55 k56 k57, Value.slice (at0 k58) 1 1])
        (H54.upd k58 (Obj.cells #[Value.bool (n35 == 1), Value.string s50] 93)) fun v59 H60 =>
        ∃ a61 k62 k63,
        v59 = Value.slice a61 k62 k63 ∧
        Triple Proofs.Tryz.prog 23
        #[Value.pointer a1, Value.slice (slA a2 1 k4 8) ((↑k3 : Int).toNat - Int.toNat 1) (k4 - Int.toNat 1), Value.bool b5, Value.string s6,
        Value.slice a61 k62 k63]
        H60 fun v64 H65 => v64 = Value.tuple #[] ∧ Q (Value.tuple #[]) H65) ∧
        ((n34 == 1) = false →
        ((n34 == 3) = true →
        ∃ H66,
        Vx.Sub H66 H13 ∧
        Ob (a2 ≠ none ∧ (0 : Int) ≤ 0 ∧ 0 < (↑k3 : Int)) ∧
        Ob (elemA a2 0 8 ≠ none) ∧
        Ob (fldA (elemA a2 0 8) 1 ≠ none) ∧
        ∃ s67,
        Reads H66 (fldA (fldA (elemA a2 0 8) 1) 1) [Value.string s67] ∧
        Triple Proofs.Tryz.prog 39
        #[Value.agg #[Value.int IntKind.i64 n40, Value.int IntKind.i64 n41, Value.slice a42 k43 k44, Value.slice a45 k46 k47], Value.string s67] H13
        fun v68 H69 =>
        ∃ b70,
        v68 = Value.bool b70 ∧
        ((b5 == b70) = true →
        Ob ((0 : Int) ≤ 1 ∧ 1 ≤ (↑k3 : Int) ∧ (↑k3 : Int) ≤ (↑k4 : Int)) ∧
        Triple Proofs.Tryz.prog 23
        #[Value.pointer a1, Value.slice (slA a2 1 k4 8) ((↑k3 : Int).toNat - Int.toNat 1) (k4 - Int.toNat 1), Value.bool b5, Value.string s6,
        Value.slice a7 k8 k9]
        H69 fun v71 H72 => v71 = Value.tuple #[] ∧ Q (Value.tuple #[]) H72) ∧
        ((b5 == b70) = false → Q (Value.tuple #[]) H69)) ∧
        ((n34 == 3) = false →
        ((n40 == 9) = true →
        (b5 = true →
        Ob ((0 : Int) ≤ 1 ∧ 1 ≤ (↑k3 : Int) ∧ (↑k3 : Int) ≤ (↑k4 : Int)) ∧
        Triple Proofs.Tryz.prog 23
        #[Value.pointer a1, Value.slice (slA a2 1 k4 8) ((↑k3 : Int).toNat - Int.toNat 1) (k4 - Int.toNat 1), Value.bool b5, Value.string s6, Value.slice a7 k8 k9]
        H13 fun v73 H74 => v73 = Value.tuple #[] ∧ Q (Value.tuple #[]) H74) ∧
        (b5 = false → Q (Value.tuple #[]) H13)) ∧
        ((n40 == 9) = false →
        ((n40 == 10) = true →
        ((!b5) = true →
        Ob ((0 : Int) ≤ 1 ∧ 1 ≤ (↑k3 : Int) ∧ (↑k3 : Int) ≤ (↑k4 : Int)) ∧
        Triple Proofs.Tryz.prog 23
        #[Value.pointer a1, Value.slice (slA a2 1 k4 8) ((↑k3 : Int).toNat - Int.toNat 1) (k4 - Int.toNat 1), Value.bool b5, Value.string s6,
        Value.slice a7 k8 k9]
        H13 fun v75 H76 => v75 = Value.tuple #[] ∧ Q (Value.tuple #[]) H76) ∧
        ((!b5) = false → Q (Value.tuple #[]) H13)) ∧
        ((n40 == 10) = false →
        ((n40 == 0) = true →
        ((n35 == 2) = true →
        (b5 = true →
        EvV Proofs.Tryz.prog (convert 29 9 (Value.slice a42 k43 k44)) H13 fun v77 H78 =>
        ∃ s79,
        v77 = Value.string s79 ∧
        ((n35 == 1) = true →
        EvV Proofs.Tryz.prog (convert 29 9 (Value.slice a37 k38 k39)) H78 fun v80 H81 =>
        ∃ s82,
        v80 = Value.string s82 ∧
        ((bif n35 == 5 then bif b5 then (↑s6.size : Int) == n41 else false else eqS s6 s79) = true →
        Ob ((0 : Int) ≤ 1 ∧ 1 ≤ (↑k3 : Int) ∧ (↑k3 : Int) ≤ (↑k4 : Int)) ∧
        Triple Proofs.Tryz.prog 23
        #[Value.pointer a1, Value.slice (slA a2 1 k4 8) ((↑k3 : Int).toNat - Int.toNat 1) (k4 - Int.toNat 1),
        Value.bool (bif n35 == 3 then false else true), Value.string (bif n35 == 3 then ({ data := #[] } : ByteArray) else s82),
        Value.slice a7 k8 k9]
        H81 fun v83 H84 => v83 = Value.tuple #[] ∧ Q (Value.tuple #[]) H84) ∧
        ((bif n35 == 5 then bif b5 then (↑s6.size : Int) == n41 else false else eqS s6 s79) = false → Q (Value.tuple #[]) H81)) ∧
        ((n35 == 1) = false →
        ((bif n35 == 5 then bif b5 then (↑s6.size : Int) == n41 else false else eqS s6 s79) = true →
        Ob ((0 : Int) ≤ 1 ∧ 1 ≤ (↑k3 : Int) ∧ (↑k3 : Int) ≤ (↑k4 : Int)) ∧
        Triple Proofs.Tryz.prog 23
        #[Value.pointer a1, Value.slice (slA a2 1 k4 8) ((↑k3 : Int).toNat - Int.toNat 1) (k4 - Int.toNat 1),
        Value.bool (bif n35 == 3 then false else b5), Value.string (bif n35 == 3 then ({ data := #[] } : ByteArray) else s6), Value.slice a7 k8 k9]
        H78 fun v85 H86 => v85 = Value.tuple #[] ∧ Q (Value.tuple #[]) H86) ∧
        ((bif n35 == 5 then bif b5 then (↑s6.size : Int) == n41 else false else eqS s6 s79) = false → Q (Value.tuple #[]) H78))) ∧
        (b5 = !true →
        ((n35 == 1) = true →
        EvV Proofs.Tryz.prog (convert 29 9 (Value.slice a37 k38 k39)) H13 fun v87 H88 =>
        ∃ s89,
        v87 = Value.string s89 ∧
        ((bif n35 == 5 then bif b5 then (↑s6.size : Int) == n41 else false else false) = true →
        Ob ((0 : Int) ≤ 1 ∧ 1 ≤ (↑k3 : Int) ∧ (↑k3 : Int) ≤ (↑k4 : Int)) ∧
        Triple Proofs.Tryz.prog 23
        #[Value.pointer a1, Value.slice (slA a2 1 k4 8) ((↑k3 : Int).toNat - Int.toNat 1) (k4 - Int.toNat 1),
        Value.bool (bif n35 == 3 then false else true), Value.string (bif n35 == 3 then ({ data := #[] } : ByteArray) else s89), Value.slice a7 k8 k9]
        H88 fun v90 H91 => v90 = Value.tuple #[] ∧ Q (Value.tuple #[]) H91) ∧
        ((bif n35 == 5 then bif b5 then (↑s6.size : Int) == n41 else false else false) = false → Q (Value.tuple #[]) H88)) ∧
        ((n35 == 1) = false →
        ((bif n35 == 5 then bif b5 then (↑s6.size : Int) == n41 else false else false) = true →
        Ob ((0 : Int) ≤ 1 ∧ 1 ≤ (↑k3 : Int) ∧ (↑k3 : Int) ≤ (↑k4 : Int)) ∧
        Triple Proofs.Tryz.prog 23
        #[Value.pointer a1, Value.slice (slA a2 1 k4 8) ((↑k3 : Int).toNat - Int.toNat 1) (k4 - Int.toNat 1),
        Value.bool (bif n35 == 3 then false else b5), Value.string (bif n35 == 3 then ({ data := #[] } : ByteArray) else s6), Value.slice a7 k8 k9]
        H13 fun v92 H93 => v92 = Value.tuple #[] ∧ Q (Value.tuple #[]) H93) ∧
        ((bif n35 == 5 then bif b5 then (↑s6.size : Int) == n41 else false else false) = false → Q (Value.tuple #[]) H13)))) ∧
        ((n35 == 2) = false →
        ((n35 == 1) = true →
        EvV Proofs.Tryz.prog (convert 29 9 (Value.slice a37 k38 k39)) H13 fun v94 H95 =>
        ∃ s96,
        v94 = Value.string s96 ∧
        ((bif n35 == 5 then bif b5 then (↑s6.size : Int) == n41 else false else !b5 == (n35 == 1)) = true →
        Ob ((0 : Int) ≤ 1 ∧ 1 ≤ (↑k3 : Int) ∧ (↑k3 : Int) ≤ (↑k4 : Int)) ∧
        Triple Proofs.Tryz.prog 23
        #[Value.pointer a1, Value.slice (slA a2 1 k4 8) ((↑k3 : Int).toNat - Int.toNat 1) (k4 - Int.toNat 1),
        Value.bool (bif n35 == 3 then false else true), Value.string (bif n35 == 3 then ({ data := #[] } : ByteArray) else s96), Value.slice a7 k8 k9]
        H95 fun v97 H98 => v97 = Value.tuple #[] ∧ Q (Value.tuple #[]) H98) ∧
        ((bif n35 == 5 then bif b5 then (↑s6.size : Int) == n41 else false else !b5 == (n35 == 1)) = false → Q (Value.tuple #[]) H95)) ∧
        ((n35 == 1) = false →
        ((bif n35 == 5 then bif b5 then (↑s6.size : Int) == n41 else false else !b5 == (n35 == 1)) = true →
        Ob ((0 : Int) ≤ 1 ∧ 1 ≤ (↑k3 : Int) ∧ (↑k3 : Int) ≤ (↑k4 : Int)) ∧
        Triple Proofs.Tryz.prog 23
        #[Value.pointer a1, Value.slice (slA a2 1 k4 8) ((↑k3 : Int).toNat - Int.toNat 1) (k4 - Int.toNat 1),
        Value.bool (bif n35 == 3 then false else b5), Value.string (bif n35 == 3 then ({ data := #[] } : ByteArray) else s6), Value.slice a7 k8 k9]
        H13 fun v99 H100 => v99 = Value.tuple #[] ∧ Q (Value.tuple #[]) H100) ∧
        ((bif n35 == 5 then bif b5 then (↑s6.size : Int) == n41 else false else !b5 == (n35 == 1)) = false → Q (Value.tuple #[]) H13)))) ∧
        ((n40 == 0) = false →
        Ob ((0 : Int) ≤ 1 ∧ 1 ≤ (↑k3 : Int) ∧ (↑k3 : Int) ≤ (↑k4 : Int)) ∧
        Triple Proofs.Tryz.prog 23
        #[Value.pointer a1, Value.slice (slA a2 1 k4 8) ((↑k3 : Int).toNat - Int.toNat 1) (k4 - Int.toNat 1), Value.bool b5, Value.string s6,
        Value.slice a7 k8 k9]
        H13 fun v101 H102 => v101 = Value.tuple #[] ∧ Q (Value.tuple #[]) H102)))))))) :
    Triple Go.Proofs.Tryz.prog 23 ([Value.pointer a1, Value.slice a2 k3 k4, Value.bool b5, Value.string s6, Value.slice a7 k8 k9]).toArray H Q :=
  Triple.of_vc rWalk.cx (by kernel_rfl) h

theorem rOrder.vc (a1 : Option Addr) (k2 : Nat) (k3 : Nat) (n4 : Int) (n5 : Int) (n6 : Int) (n7 : Int) (s8 : ByteArray) (a9 : Option Addr) (k10 : Nat) (k11 : Nat) (n12 : Int) (n13 : Int) (a14 : Option Addr) (k15 : Nat) (k16 : Nat) (a17 : Option Addr) (k18 : Nat) (k19 : Nat) (H : PHeap) (Q : Value → PHeap → Prop)
    (h : ((n4 == 1) = true →
    ∃ H20,
      Vx.Sub H20 H ∧
        ∀ (k21 : Nat),
        H k21 = none →
        Vx.Sub H20 (H.upd k21 (Obj.cells #[] 80)) ∧
        EvV Proofs.Tryz.prog (Builtin.append_ #[76, 76] 76 #[Value.slice (at0 k21) 0 0, Value.slice a1 k2 k3]) (H.upd k21 (Obj.cells #[] 80)) fun v22 H23 =>
        ∃ a24 k25 k26,
        v22 = Value.slice a24 k25 k26 ∧
        Vx.Sub H20 H23 ∧
        ∀ (k27 : Nat),
        H23 k27 = none →
        Vx.Sub H20 (H23.upd k27 (Obj.cells #[Value.int IntKind.i64 n7, Value.string s8, Value.slice a9 k10 k11, Value.bool false, Value.bool false] 80)) ∧
        EvV Proofs.Tryz.prog (Builtin.append_ #[76, 76] 76 #[Value.slice a24 k25 k26, Value.slice (at0 k27) 1 1])
        (H23.upd k27 (Obj.cells #[Value.int IntKind.i64 n7, Value.string s8, Value.slice a9 k10 k11, Value.bool false, Value.bool false] 80)) fun v28 H29 =>
        ∃ a30 k31 k32, v28 = Value.slice a30 k31 k32 ∧ Vx.Sub H20 H29 ∧ Q (Value.tuple #[Value.slice a30 k31 k32, Value.bool (n5 == (↑k2 : Int))]) H29) ∧
  ((n4 == 1) = false →
    (decide (n5 < 0) = false →
        (decide (n5 ≥ (↑k2 : Int)) = false →
        Ob (a1 ≠ none ∧ 0 ≤ n5 ∧ n5 < (↑k2 : Int)) ∧
        Ob (elemA a1 n5 5 ≠ none) ∧
        ∃ b33,
        Reads H (fldA (elemA a1 n5 5) 4) [Value.bool b33] ∧
        (b33 = true → Q (Value.tuple #[Value.slice a1 k2 k3, Value.bool false]) H) ∧
        (b33 = false →
        ∀ (k34 : Nat),
        H k34 = none →
        EvV Proofs.Tryz.prog (Builtin.append_ #[76, 76] 76 #[Value.slice (at0 k34) 0 0, Value.slice a1 k2 k3]) (H.upd k34 (Obj.cells #[] 80)) fun v35 H36 =>
        ∃ a37 k38 k39,
        v35 = Value.slice a37 k38 k39 ∧
        Ob (a37 ≠ none ∧ 0 ≤ n5 ∧ n5 < (↑k38 : Int)) ∧
        ∃ n40 s41 a42 k43 k44 b45 b46,
        Reads H36 (elemA a37 n5 5) [Value.int IntKind.i64 n40, Value.string s41, Value.slice a42 k43 k44, Value.bool b45, Value.bool b46] ∧
        ((n4 == 2) = true →
        ∃ (R47 : Rl) (M48 : Mu),
        R47 [Value.int IntKind.i64 0] H36 ∧
        ∀ (n49 : Int) (H50 : PHeap),
        R47 [Value.int IntKind.i64 n49] H50 →
        (decide (n49 < (↑k2 : Int)) = true →
        Ob (a1 ≠ none ∧ 0 ≤ n49 ∧ n49 < (↑k2 : Int)) ∧
        Ob (elemA a1 n49 5 ≠ none) ∧
        ∃ b51,
        Reads H50 (fldA (elemA a1 n49 5) 3) [Value.bool b51] ∧
        (b51 = true →
        Ob (a1 ≠ none ∧ 0 ≤ n49 ∧ n49 < (↑k2 : Int)) ∧
        Ob (elemA a1 n49 5 ≠ none) ∧
        ∃ b52,
        Reads H50 (fldA (elemA a1 n49 5) 4) [Value.bool b52] ∧
        ((!b52) = true → Q (Value.tuple #[Value.slice a1 k2 k3, Value.bool false]) H50) ∧
        ((!b52) = false →
        R47 [Value.int IntKind.i64 (IntKind.i64.wrap (n49 + 1))] H50 ∧
        Less (M48 [Value.int IntKind.i64 (IntKind.i64.wrap (n49 + 1))] H50) (M48 [Value.int IntKind.i64 n49] H50))) ∧
        (b51 = !true →
        R47 [Value.int IntKind.i64 (IntKind.i64.wrap (n49 + 1))] H50 ∧
        Less (M48 [Value.int IntKind.i64 (IntKind.i64.wrap (n49 + 1))] H50) (M48 [Value.int IntKind.i64 n49] H50))) ∧
        (decide (n49 < (↑k2 : Int)) = false →
        ((!b45) = true →
        Triple Proofs.Tryz.prog 44
        #[Value.agg #[Value.int IntKind.i64 n40, Value.string s41, Value.slice a42 k43 k44],
        Value.agg #[Value.int IntKind.i64 n7, Value.string s8, Value.slice a9 k10 k11]]
        H50 fun v53 H54 =>
        ∃ b55,
        v53 = Value.bool b55 ∧
        (b55 = true →
        Triple Proofs.Tryz.prog 45 #[Value.agg #[Value.int IntKind.i64 n40, Value.string s41, Value.slice a42 k43 k44]] H54 fun v56 H57 =>
        ∃ n58,
        v56 = Value.int IntKind.i64 n58 ∧
        Ob (a37 ≠ none ∧ 0 ≤ n5 ∧ n5 < (↑k38 : Int)) ∧
        ∃ H59,
        Writes H57 H59 (elemA a37 n5 5)
        [Value.int IntKind.i64 n40, Value.string s41, Value.slice a42 k43 k44, Value.bool true, Value.bool b46] ∧
        Q (Value.tuple #[Value.slice a37 k38 k39, Value.bool (n58 == 0)]) H59) ∧
        (b55 = !true →
        Ob (a37 ≠ none ∧ 0 ≤ n5 ∧ n5 < (↑k38 : Int)) ∧
        ∃ H60,
        Writes H54 H60 (elemA a37 n5 5)
        [Value.int IntKind.i64 n40, Value.string s41, Value.slice a42 k43 k44, Value.bool true, Value.bool b46] ∧
        Q (Value.tuple #[Value.slice a37 k38 k39, Value.bool false]) H60)) ∧
        ((!b45) = !true →
        Ob (a37 ≠ none ∧ 0 ≤ n5 ∧ n5 < (↑k38 : Int)) ∧
        ∃ H61,
        Writes H50 H61 (elemA a37 n5 5)
        [Value.int IntKind.i64 n40, Value.string s41, Value.slice a42 k43 k44, Value.bool true, Value.bool b46] ∧
        Q (Value.tuple #[Value.slice a37 k38 k39, Value.bool false]) H61))) ∧
        ((n4 == 2) = false →
        ((n4 == 3) = true →
        ∃ H62,
        Vx.Sub H62 H36 ∧
        (b45 = true →
        Triple Proofs.Tryz.prog 46
        #[Value.slice a1 k2 k3, Value.agg #[Value.int IntKind.i64 n40, Value.string s41, Value.slice a42 k43 k44],
        Value.agg #[Value.int IntKind.i64 n12, Value.int IntKind.i64 n13, Value.slice a14 k15 k16, Value.slice a17 k18 k19]]
        H36 fun v63 H64 =>
        ∃ b65,
        v63 = Value.bool b65 ∧
        Vx.Sub H62 H64 ∧
        (b65 = false →
        ((!b45) = true →
        ((n12 != 0) = true →
        Triple Proofs.Tryz.prog 45 #[Value.agg #[Value.int IntKind.i64 n40, Value.string s41, Value.slice a42 k43 k44]] H64
        fun v66 H67 =>
        ∃ n68,
        v66 = Value.int IntKind.i64 n68 ∧
        Vx.Sub H62 H67 ∧
        ((n12 == n68) = true →
        Triple Proofs.Tryz.prog 47
        #[Value.agg
        #[Value.int IntKind.i64 n12, Value.int IntKind.i64 n13, Value.slice a14 k15 k16, Value.slice a17 k18 k19]]
        H67 fun v69 H70 =>
        ∃ b71,
        v69 = Value.bool b71 ∧
        Ob (a37 ≠ none ∧ 0 ≤ n5 ∧ n5 < (↑k38 : Int)) ∧
        ∃ H72,
        Writes H70 H72 (elemA a37 n5 5)
        [Value.int IntKind.i64 n40, Value.string s41, Value.slice a42 k43 k44, Value.bool b45,
        Value.bool true] ∧
        Q (Value.tuple #[Value.slice a37 k38 k39, Value.bool b71]) H72) ∧
        ((n12 == n68) = !true →
        Ob (a37 ≠ none ∧ 0 ≤ n5 ∧ n5 < (↑k38 : Int)) ∧
        ∃ H73,
        Writes H67 H73 (elemA a37 n5 5)
        [Value.int IntKind.i64 n40, Value.string s41, Value.slice a42 k43 k44, Value.bool b45,
        Value.bool true] ∧
        Q (Value.tuple #[Value.slice a37 k38 k39, Value.bool false]) H73)) ∧
        ((n12 != 0) = !true →
        Ob (a37 ≠ none ∧ 0 ≤ n5 ∧ n5 < (↑k38 : Int)) ∧
        ∃ H74,
        Writes H64 H74 (elemA a37 n5 5)
        [Value.int IntKind.i64 n40, Value.string s41, Value.slice a42 k43 k44, Value.bool b45, Value.bool true] ∧
        Q (Value.tuple #[Value.slice a37 k38 k39, Value.bool false]) H74)) ∧
        ((!b45) = !true →
        Ob (a37 ≠ none ∧ 0 ≤ n5 ∧ n5 < (↑k38 : Int)) ∧
        ∃ H75,
        Writes H64 H75 (elemA a37 n5 5)
        [Value.int IntKind.i64 n40, Value.string s41, Value.slice a42 k43 k44, Value.bool b45, Value.bool true] ∧
        Q (Value.tuple #[Value.slice a37 k38 k39, Value.bool false]) H75)) ∧
        (b65 = !false →
        Ob (a37 ≠ none ∧ 0 ≤ n5 ∧ n5 < (↑k38 : Int)) ∧
        ∃ H76,
        Writes H64 H76 (elemA a37 n5 5)
        [Value.int IntKind.i64 n40, Value.string s41, Value.slice a42 k43 k44, Value.bool b45, Value.bool true] ∧
        Q (Value.tuple #[Value.slice a37 k38 k39, Value.bool true]) H76)) ∧
        (b45 = !true →
        ((!b45) = true →
        ((n12 != 0) = true →
        Triple Proofs.Tryz.prog 45 #[Value.agg #[Value.int IntKind.i64 n40, Value.string s41, Value.slice a42 k43 k44]] H36 fun v77 H78 =>
        ∃ n79,
        v77 = Value.int IntKind.i64 n79 ∧
        Vx.Sub H62 H78 ∧
        ((n12 == n79) = true →
        Triple Proofs.Tryz.prog 47
        #[Value.agg #[Value.int IntKind.i64 n12, Value.int IntKind.i64 n13, Value.slice a14 k15 k16, Value.slice a17 k18 k19]] H78
        fun v80 H81 =>
        ∃ b82,
        v80 = Value.bool b82 ∧
        Ob (a37 ≠ none ∧ 0 ≤ n5 ∧ n5 < (↑k38 : Int)) ∧
        ∃ H83,
        Writes H81 H83 (elemA a37 n5 5)
        [Value.int IntKind.i64 n40, Value.string s41, Value.slice a42 k43 k44, Value.bool b45, Value.bool true] ∧
        Q (Value.tuple #[Value.slice a37 k38 k39, Value.bool b82]) H83) ∧
        ((n12 == n79) = !true →
        Ob (a37 ≠ none ∧ 0 ≤ n5 ∧ n5 < (↑k38 : Int)) ∧
        ∃ H84,
        Writes H78 H84 (elemA a37 n5 5)
        [Value.int IntKind.i64 n40, Value.string s41, Value.slice a42 k43 k44, Value.bool b45, Value.bool true] ∧
        Q (Value.tuple #[Value.slice a37 k38 k39, Value.bool false]) H84)) ∧
        ((n12 != 0) = !true →
        Ob (a37 ≠ none ∧ 0 ≤ n5 ∧ n5 < (↑k38 : Int)) ∧
        ∃ H85,
        Writes H36 H85 (elemA a37 n5 5)
        [Value.int IntKind.i64 n40, Value.string s41, Value.slice a42 k43 k44, Value.bool b45, Value.bool true] ∧
        Q (Value.tuple #[Value.slice a37 k38 k39, Value.bool false]) H85)) ∧
        ((!b45) = !true →
        Ob (a37 ≠ none ∧ 0 ≤ n5 ∧ n5 < (↑k38 : Int)) ∧
        ∃ H86,
        Writes H36 H86 (elemA a37 n5 5)
        [Value.int IntKind.i64 n40, Value.string s41, Value.slice a42 k43 k44, Value.bool b45, Value.bool true] ∧
        Q (Value.tuple #[Value.slice a37 k38 k39, Value.bool false]) H86))) ∧
        ((n4 == 3) = false →
        ((n4 == 4) = true →
        Ob (a37 ≠ none ∧ 0 ≤ n5 ∧ n5 < (↑k38 : Int)) ∧
        ∃ H87,
        Writes H36 H87 (elemA a37 n5 5) [Value.int IntKind.i64 n40, Value.string s41, Value.slice a42 k43 k44, Value.bool b45, Value.bool true] ∧
        Q (Value.tuple #[Value.slice a37 k38 k39, Value.bool true]) H87) ∧
        ((n4 == 4) = false → Q (Value.tuple #[Value.slice a1 k2 k3, Value.bool false]) H36))))) ∧
        (decide (n5 ≥ (↑k2 : Int)) = !false → Q (Value.tuple #[Value.slice a1 k2 k3, Value.bool false]) H)) ∧
      (decide (n5 < 0) = !false → Q (Value.tuple #[Value.slice a1 k2 k3, Value.bool false]) H))) :
    Triple Go.Proofs.Tryz.prog 29 ([Value.slice a1 k2 k3,
  Value.agg
    #[Value.int IntKind.i64 n4, Value.int IntKind.i64 n5, Value.int IntKind.i64 n6, Value.int IntKind.i64 n7, Value.string s8, Value.slice a9 k10 k11, Value.int IntKind.i64 n12,
      Value.int IntKind.i64 n13, Value.slice a14 k15 k16, Value.slice a17 k18 k19]]).toArray H Q :=
  Triple.of_vc rOrder.cx (by kernel_rfl) h

theorem rCalled.vc (a1 : Option Addr) (k2 : Nat) (k3 : Nat) (s4 : ByteArray) (H : PHeap) (Q : Value → PHeap → Prop)
    (h : ∃ (R5 : Rl) (M6 : Mu),
  R5 [Value.int IntKind.i64 0] H ∧
    ∀ (n7 : Int) (H8 : PHeap),
      R5 [Value.int IntKind.i64 n7] H8 →
        (decide (n7 < (↑k2 : Int)) = true →
        Ob (a1 ≠ none ∧ 0 ≤ n7 ∧ n7 < (↑k2 : Int)) ∧
        Ob (elemA a1 n7 5 ≠ none) ∧
        Ob (fldA (elemA a1 n7 5) 0 ≠ none) ∧
        ∃ n9,
        Reads H8 (fldA (fldA (elemA a1 n7 5) 0) 0) [Value.int IntKind.i64 n9] ∧
        ((n9 != 4) = true →
        Ob (a1 ≠ none ∧ 0 ≤ n7 ∧ n7 < (↑k2 : Int)) ∧
        Ob (elemA a1 n7 5 ≠ none) ∧
        Ob (fldA (elemA a1 n7 5) 0 ≠ none) ∧
        ∃ s10,
        Reads H8 (fldA (fldA (elemA a1 n7 5) 0) 1) [Value.string s10] ∧
        (eqS s10 s4 = true → Q (Value.bool true) H8) ∧
        (eqS s10 s4 = false →
        R5 [Value.int IntKind.i64 (IntKind.i64.wrap (n7 + 1))] H8 ∧
        Less (M6 [Value.int IntKind.i64 (IntKind.i64.wrap (n7 + 1))] H8) (M6 [Value.int IntKind.i64 n7] H8))) ∧
        ((n9 != 4) = !true →
        R5 [Value.int IntKind.i64 (IntKind.i64.wrap (n7 + 1))] H8 ∧ Less (M6 [Value.int IntKind.i64 (IntKind.i64.wrap (n7 + 1))] H8) (M6 [Value.int IntKind.i64 n7] H8))) ∧
        (decide (n7 < (↑k2 : Int)) = false → Q (Value.bool false) H8)) :
    Triple Go.Proofs.Tryz.prog 30 ([Value.slice a1 k2 k3, Value.string s4]).toArray H Q :=
  Triple.of_vc rCalled.cx (by kernel_rfl) h

theorem rFound.vc (a1 : Option Addr) (b2 : Bool) (s3 : ByteArray) (H : PHeap) (Q : Value → PHeap → Prop)
    (h : Ob (a1 ≠ none) ∧
  Ob (a1 ≠ none) ∧
    ∃ H4,
      Writes H H4 (fldA a1 0) [Value.bool true] ∧
        ((!b2) = true → Ob (a1 ≠ none) ∧ Ob (a1 ≠ none) ∧ ∃ H5, Writes H4 H5 (fldA a1 1) [Value.bool true] ∧ Q (Value.tuple #[]) H5) ∧
        ((!b2) = false →
        Ob (a1 ≠ none) ∧
        Ob (a1 ≠ none) ∧
        ∃ a6 k7 k8,
        Reads H4 (fldA a1 2) [Value.slice a6 k7 k8] ∧
        Triple Proofs.Tryz.prog 54 #[Value.slice a6 k7 k8, Value.string s3] H4 fun v9 H10 =>
        ∃ b11,
        v9 = Value.bool b11 ∧
        ((!b11) = true →
        Ob (a1 ≠ none) ∧
        Ob (a1 ≠ none) ∧
        ∃ a12 k13 k14,
        Reads H10 (fldA a1 2) [Value.slice a12 k13 k14] ∧
        ∀ (k15 : Nat),
        H10 k15 = none →
        EvV Proofs.Tryz.prog (Builtin.append_ #[33, 33] 33 #[Value.slice a12 k13 k14, Value.slice (at0 k15) 1 1])
        (H10.upd k15 (Obj.cells #[Value.string s3] 9)) fun v16 H17 =>
        ∃ a18 k19 k20,
        v16 = Value.slice a18 k19 k20 ∧ Ob (a1 ≠ none) ∧ Ob (a1 ≠ none) ∧ ∃ H21, Writes H17 H21 (fldA a1 2) [Value.slice a18 k19 k20] ∧ Q (Value.tuple #[]) H21) ∧
        ((!b11) = false → Q (Value.tuple #[]) H10))) :
    Triple Go.Proofs.Tryz.prog 38 ([Value.pointer a1, Value.bool b2, Value.string s3]).toArray H Q :=
  Triple.of_vc rFound.cx (by kernel_rfl) h

theorem rListed.vc (n1 : Int) (n2 : Int) (a3 : Option Addr) (k4 : Nat) (k5 : Nat) (a6 : Option Addr) (k7 : Nat) (k8 : Nat) (s9 : ByteArray) (H : PHeap) (Q : Value → PHeap → Prop)
    (h : Triple Proofs.Tryz.prog 54 #[Value.slice a6 k7 k8, Value.string s9] H fun v10 H11 => ∃ b12, v10 = Value.bool b12 ∧ Q (Value.bool b12) H11) :
    Triple Go.Proofs.Tryz.prog 39 ([Value.agg #[Value.int IntKind.i64 n1, Value.int IntKind.i64 n2, Value.slice a3 k4 k5, Value.slice a6 k7 k8], Value.string s9]).toArray H Q :=
  Triple.of_vc rListed.cx (by kernel_rfl) h

theorem rForm.vc (a1 : Option Addr) (k2 : Nat) (k3 : Nat) (n4 : Int) (s5 : ByteArray) (a6 : Option Addr) (k7 : Nat) (k8 : Nat) (n9 : Int) (n10 : Int) (a11 : Option Addr) (k12 : Nat) (k13 : Nat) (a14 : Option Addr) (k15 : Nat) (k16 : Nat) (H : PHeap) (Q : Value → PHeap → Prop)
    (h : ((n9 == 0) = true →
    ((n4 == 4) = true →
        ∃ (R17 : Rl) (M18 : Mu),
        R17 [Value.int IntKind.i64 0] H ∧
        ∀ (n19 : Int) (H20 : PHeap),
        R17 [Value.int IntKind.i64 n19] H20 →
        (decide (n19 < (↑k15 : Int)) = true →
        ∃ H21,
        Vx.Sub H21 H20 ∧
        Ob (a14 ≠ none ∧ 0 ≤ n19 ∧ n19 < (↑k15 : Int)) ∧
        ∃ s22,
        Reads H21 (elemA a14 n19 1) [Value.string s22] ∧
        Triple Proofs.Tryz.prog 30 #[Value.slice a1 k2 k3, Value.string s22] H20 fun v23 H24 =>
        ∃ b25,
        v23 = Value.bool b25 ∧
        Vx.Sub H21 H24 ∧
        ((!b25) = false →
        (decide (n19 > 0) = true →
        Ob (a14 ≠ none ∧ 0 ≤ IntKind.i64.wrap (n19 - 1) ∧ IntKind.i64.wrap (n19 - 1) < (↑k15 : Int)) ∧
        ∃ s26,
        Reads H21 (elemA a14 (IntKind.i64.wrap (n19 - 1)) 1) [Value.string s26] ∧
        Ob (a14 ≠ none ∧ 0 ≤ n19 ∧ n19 < (↑k15 : Int)) ∧
        ∃ s27,
        Reads H21 (elemA a14 n19 1) [Value.string s27] ∧
        Triple Proofs.Tryz.prog 24 #[Value.string s26, Value.string s27] H24 fun v28 H29 =>
        ∃ b30,
        v28 = Value.bool b30 ∧
        ((!b30) = true → Q (Value.bool false) H29) ∧
        ((!b30) = false →
        R17 [Value.int IntKind.i64 (IntKind.i64.wrap (n19 + 1))] H29 ∧
        Less (M18 [Value.int IntKind.i64 (IntKind.i64.wrap (n19 + 1))] H29) (M18 [Value.int IntKind.i64 n19] H20))) ∧
        (decide (n19 > 0) = !true →
        R17 [Value.int IntKind.i64 (IntKind.i64.wrap (n19 + 1))] H24 ∧
        Less (M18 [Value.int IntKind.i64 (IntKind.i64.wrap (n19 + 1))] H24) (M18 [Value.int IntKind.i64 n19] H20))) ∧
        ((!b25) = !false → Q (Value.bool false) H24)) ∧
        (decide (n19 < (↑k15 : Int)) = false → Q (Value.bool (bif n10 == 0 then (↑k12 : Int) == 0 else false)) H20)) ∧
      ((n4 == 4) = false →
        Q (Value.bool (bif (↑k15 : Int) == 0 then bif n4 == 2 then bif n4 == 5 then true else n10 == 0 else bif (↑k12 : Int) == 0 then bif n4 == 5 then true else n10 == 0 else false else false)) H)) ∧
  ((n9 == 0) = false →
    ((n9 == 13) = true →
        Triple Proofs.Tryz.prog 47 #[Value.agg #[Value.int IntKind.i64 n9, Value.int IntKind.i64 n10, Value.slice a11 k12 k13, Value.slice a14 k15 k16]] H fun v31 H32 =>
        ∃ b33, v31 = Value.bool b33 ∧ Q (Value.bool b33) H32) ∧
      ((n9 == 13) = false →
        ((bif n9 == 11 then true else n9 == 12) = true →
        Triple Proofs.Tryz.prog 47 #[Value.agg #[Value.int IntKind.i64 n9, Value.int IntKind.i64 n10, Value.slice a11 k12 k13, Value.slice a14 k15 k16]] H fun v34 H35 =>
        ∃ b36, v34 = Value.bool b36 ∧ Q (Value.bool (bif b36 then bif n4 == 1 then true else n4 == 6 else false)) H35) ∧
        ((bif n9 == 11 then true else n9 == 12) = false →
        ((n9 == 9) = true →
        Triple Proofs.Tryz.prog 47 #[Value.agg #[Value.int IntKind.i64 n9, Value.int IntKind.i64 n10, Value.slice a11 k12 k13, Value.slice a14 k15 k16]] H fun v37 H38 =>
        ∃ b39, v37 = Value.bool b39 ∧ Q (Value.bool (bif b39 then n4 == 1 else false)) H38) ∧
        ((n9 == 9) = false →
        ((n9 == 10) = true →
        Triple Proofs.Tryz.prog 47 #[Value.agg #[Value.int IntKind.i64 n9, Value.int IntKind.i64 n10, Value.slice a11 k12 k13, Value.slice a14 k15 k16]] H fun v40 H41 =>
        ∃ b42, v40 = Value.bool b42 ∧ Q (Value.bool (bif b42 then bif n4 != 1 then n4 != 4 else false else false)) H41) ∧
        ((n9 == 10) = false → Q (Value.bool false) H)))))) :
    Triple Go.Proofs.Tryz.prog 46 ([Value.slice a1 k2 k3, Value.agg #[Value.int IntKind.i64 n4, Value.string s5, Value.slice a6 k7 k8],
  Value.agg #[Value.int IntKind.i64 n9, Value.int IntKind.i64 n10, Value.slice a11 k12 k13, Value.slice a14 k15 k16]]).toArray H Q :=
  Triple.of_vc rForm.cx (by kernel_rfl) h

theorem rPlain.vc (n1 : Int) (n2 : Int) (a3 : Option Addr) (k4 : Nat) (k5 : Nat) (a6 : Option Addr) (k7 : Nat) (k8 : Nat) (H : PHeap) (Q : Value → PHeap → Prop)
    (h : Q (Value.bool (bif n2 == 0 then bif (↑k4 : Int) == 0 then (↑k7 : Int) == 0 else false else false)) H) :
    Triple Go.Proofs.Tryz.prog 47 ([Value.agg #[Value.int IntKind.i64 n1, Value.int IntKind.i64 n2, Value.slice a3 k4 k5, Value.slice a6 k7 k8]]).toArray H Q :=
  Triple.of_vc rPlain.cx (by kernel_rfl) h

theorem rHas.vc (a1 : Option Addr) (k2 : Nat) (k3 : Nat) (s4 : ByteArray) (H : PHeap) (Q : Value → PHeap → Prop)
    (h : ∃ (R5 : Rl) (M6 : Mu),
  R5 [Value.int IntKind.i64 0] H ∧
    ∀ (n7 : Int) (H8 : PHeap),
      R5 [Value.int IntKind.i64 n7] H8 →
        (decide (n7 < (↑k2 : Int)) = true →
        Ob (a1 ≠ none ∧ 0 ≤ n7 ∧ n7 < (↑k2 : Int)) ∧
        ∃ s9,
        Reads H8 (elemA a1 n7 1) [Value.string s9] ∧
        (eqS s9 s4 = true → Q (Value.bool true) H8) ∧
        (eqS s9 s4 = false →
        R5 [Value.int IntKind.i64 (IntKind.i64.wrap (n7 + 1))] H8 ∧ Less (M6 [Value.int IntKind.i64 (IntKind.i64.wrap (n7 + 1))] H8) (M6 [Value.int IntKind.i64 n7] H8))) ∧
        (decide (n7 < (↑k2 : Int)) = false → Q (Value.bool false) H8)) :
    Triple Go.Proofs.Tryz.prog 54 ([Value.slice a1 k2 k3, Value.string s4]).toArray H Q :=
  Triple.of_vc rHas.cx (by kernel_rfl) h

theorem rSameOp.vc (n1 : Int) (s2 : ByteArray) (a3 : Option Addr) (k4 : Nat) (k5 : Nat) (n6 : Int) (s7 : ByteArray) (a8 : Option Addr) (k9 : Nat) (k10 : Nat) (H : PHeap) (Q : Value → PHeap → Prop)
    (h : ((n1 == n6) = true →
    (eqS s2 s7 = true → Triple Proofs.Tryz.prog 73 #[Value.slice a3 k4 k5, Value.slice a8 k9 k10] H fun v11 H12 => ∃ b13, v11 = Value.bool b13 ∧ Q (Value.bool b13) H12) ∧
      (eqS s2 s7 = !true → Q (Value.bool false) H)) ∧
  ((n1 == n6) = !true → Q (Value.bool false) H)) :
    Triple Go.Proofs.Tryz.prog 44 ([Value.agg #[Value.int IntKind.i64 n1, Value.string s2, Value.slice a3 k4 k5], Value.agg #[Value.int IntKind.i64 n6, Value.string s7, Value.slice a8 k9 k10]]).toArray H Q :=
  Triple.of_vc rSameOp.cx (by kernel_rfl) h

theorem rCheck.vc (n1 : Int) (s2 : ByteArray) (a3 : Option Addr) (k4 : Nat) (k5 : Nat) (H : PHeap) (Q : Value → PHeap → Prop)
    (h : ((bif decide (n1 < 1) then true
      else
        bif decide (n1 > 6) then true
        else bif n1 == 4 then bif decide ((↑s2.size : Int) > 0) then true else bif n1 != 1 then decide ((↑k4 : Int) > 0) else false else bif n1 != 1 then decide ((↑k4 : Int) > 0) else false) =
      true →
    Q (Value.int IntKind.i64 1) H) ∧
  ((bif decide (n1 < 1) then true
      else
        bif decide (n1 > 6) then true
        else bif n1 == 4 then bif decide ((↑s2.size : Int) > 0) then true else bif n1 != 1 then decide ((↑k4 : Int) > 0) else false else bif n1 != 1 then decide ((↑k4 : Int) > 0) else false) =
      false →
    ((n1 != 4) = true →
        Triple Proofs.Tryz.prog 74 #[Value.string s2] H fun v6 H7 =>
        ∃ b8,
        v6 = Value.bool b8 ∧
        ((!b8) = true → Q (Value.int IntKind.i64 8) H7) ∧
        ((!b8) = false → (decide ((↑k4 : Int) > 240) = true → Q (Value.int IntKind.i64 7) H7) ∧ (decide ((↑k4 : Int) > 240) = false → Q (Value.int IntKind.i64 0) H7))) ∧
      ((n1 != 4) = !true → (decide ((↑k4 : Int) > 240) = true → Q (Value.int IntKind.i64 7) H) ∧ (decide ((↑k4 : Int) > 240) = false → Q (Value.int IntKind.i64 0) H)))) :
    Triple Go.Proofs.Tryz.prog 45 ([Value.agg #[Value.int IntKind.i64 n1, Value.string s2, Value.slice a3 k4 k5]]).toArray H Q :=
  Triple.of_vc rCheck.cx (by kernel_rfl) h

theorem refAdd.vc (a1 : Option Addr) (k2 : Nat) (k3 : Nat) (s4 : ByteArray) (H : PHeap) (Q : Value → PHeap → Prop)
    (h : ∃ (R5 : Rl) (M6 : Mu),
  R5 [Value.int IntKind.i64 0] H ∧
    ∀ (n7 : Int) (H8 : PHeap),
      R5 [Value.int IntKind.i64 n7] H8 →
        (decide (n7 < (↑k2 : Int)) = true →
        Ob (a1 ≠ none ∧ 0 ≤ n7 ∧ n7 < (↑k2 : Int)) ∧
        ∃ s9,
        Reads H8 (elemA a1 n7 1) [Value.string s9] ∧
        Triple Proofs.Tryz.prog 24 #[Value.string s9, Value.string s4] H8 fun v10 H11 =>
        ∃ b12,
        v10 = Value.bool b12 ∧
        (b12 = true →
        R5 [Value.int IntKind.i64 (IntKind.i64.wrap (n7 + 1))] H11 ∧ Less (M6 [Value.int IntKind.i64 (IntKind.i64.wrap (n7 + 1))] H11) (M6 [Value.int IntKind.i64 n7] H8)) ∧
        (b12 = false →
        (decide (n7 < (↑k2 : Int)) = true →
        Ob (a1 ≠ none ∧ 0 ≤ n7 ∧ n7 < (↑k2 : Int)) ∧
        ∃ s13,
        Reads H11 (elemA a1 n7 1) [Value.string s13] ∧
        (eqS s13 s4 = true → Q (Value.slice a1 k2 k3) H11) ∧
        (eqS s13 s4 = false →
        ∀ (k14 : Nat),
        H11 k14 = none →
        Ob ((0 : Int) ≤ 0 ∧ 0 ≤ n7 ∧ n7 ≤ (↑k3 : Int)) ∧
        EvV Proofs.Tryz.prog
        (Builtin.append_ #[33, 33] 33
        #[Value.slice (at0 k14) 0 0, Value.slice (slA a1 0 k3 1) (n7.toNat - Int.toNat 0) (k3 - Int.toNat 0)])
        (H11.upd k14 (Obj.cells #[] 9)) fun v15 H16 =>
        ∃ a17 k18 k19,
        v15 = Value.slice a17 k18 k19 ∧
        ∀ (k20 : Nat),
        H16 k20 = none →
        EvV Proofs.Tryz.prog (Builtin.append_ #[33, 33] 33 #[Value.slice a17 k18 k19, Value.slice (at0 k20) 1 1])
        (H16.upd k20 (Obj.cells #[Value.string s4] 9)) fun v21 H22 =>
        ∃ a23 k24 k25,
        v21 = Value.slice a23 k24 k25 ∧
        Ob (0 ≤ n7 ∧ n7 ≤ (↑k2 : Int) ∧ (↑k2 : Int) ≤ (↑k3 : Int)) ∧
        EvV Proofs.Tryz.prog
        (Builtin.append_ #[33, 33] 33
        #[Value.slice a23 k24 k25, Value.slice (slA a1 n7 k3 1) ((↑k2 : Int).toNat - n7.toNat) (k3 - n7.toNat)])
        H22 fun v26 H27 => ∃ a28 k29 k30, v26 = Value.slice a28 k29 k30 ∧ Q (Value.slice a28 k29 k30) H27)) ∧
        (decide (n7 < (↑k2 : Int)) = !true →
        ∀ (k31 : Nat),
        H11 k31 = none →
        Ob ((0 : Int) ≤ 0 ∧ 0 ≤ n7 ∧ n7 ≤ (↑k3 : Int)) ∧
        EvV Proofs.Tryz.prog
        (Builtin.append_ #[33, 33] 33 #[Value.slice (at0 k31) 0 0, Value.slice (slA a1 0 k3 1) (n7.toNat - Int.toNat 0) (k3 - Int.toNat 0)])
        (H11.upd k31 (Obj.cells #[] 9)) fun v32 H33 =>
        ∃ a34 k35 k36,
        v32 = Value.slice a34 k35 k36 ∧
        ∀ (k37 : Nat),
        H33 k37 = none →
        EvV Proofs.Tryz.prog (Builtin.append_ #[33, 33] 33 #[Value.slice a34 k35 k36, Value.slice (at0 k37) 1 1])
        (H33.upd k37 (Obj.cells #[Value.string s4] 9)) fun v38 H39 =>
        ∃ a40 k41 k42,
        v38 = Value.slice a40 k41 k42 ∧
        Ob (0 ≤ n7 ∧ n7 ≤ (↑k2 : Int) ∧ (↑k2 : Int) ≤ (↑k3 : Int)) ∧
        EvV Proofs.Tryz.prog
        (Builtin.append_ #[33, 33] 33 #[Value.slice a40 k41 k42, Value.slice (slA a1 n7 k3 1) ((↑k2 : Int).toNat - n7.toNat) (k3 - n7.toNat)]) H39
        fun v43 H44 => ∃ a45 k46 k47, v43 = Value.slice a45 k46 k47 ∧ Q (Value.slice a45 k46 k47) H44))) ∧
        (decide (n7 < (↑k2 : Int)) = !true →
        (decide (n7 < (↑k2 : Int)) = true →
        Ob (a1 ≠ none ∧ 0 ≤ n7 ∧ n7 < (↑k2 : Int)) ∧
        ∃ s48,
        Reads H8 (elemA a1 n7 1) [Value.string s48] ∧
        (eqS s48 s4 = true → Q (Value.slice a1 k2 k3) H8) ∧
        (eqS s48 s4 = false →
        ∀ (k49 : Nat),
        H8 k49 = none →
        Ob ((0 : Int) ≤ 0 ∧ 0 ≤ n7 ∧ n7 ≤ (↑k3 : Int)) ∧
        EvV Proofs.Tryz.prog
        (Builtin.append_ #[33, 33] 33 #[Value.slice (at0 k49) 0 0, Value.slice (slA a1 0 k3 1) (n7.toNat - Int.toNat 0) (k3 - Int.toNat 0)])
        (H8.upd k49 (Obj.cells #[] 9)) fun v50 H51 =>
        ∃ a52 k53 k54,
        v50 = Value.slice a52 k53 k54 ∧
        ∀ (k55 : Nat),
        H51 k55 = none →
        EvV Proofs.Tryz.prog (Builtin.append_ #[33, 33] 33 #[Value.slice a52 k53 k54, Value.slice (at0 k55) 1 1])
        (H51.upd k55 (Obj.cells #[Value.string s4] 9)) fun v56 H57 =>
        ∃ a58 k59 k60,
        v56 = Value.slice a58 k59 k60 ∧
        Ob (0 ≤ n7 ∧ n7 ≤ (↑k2 : Int) ∧ (↑k2 : Int) ≤ (↑k3 : Int)) ∧
        EvV Proofs.Tryz.prog
        (Builtin.append_ #[33, 33] 33 #[Value.slice a58 k59 k60, Value.slice (slA a1 n7 k3 1) ((↑k2 : Int).toNat - n7.toNat) (k3 - n7.toNat)]) H57
        fun v61 H62 => ∃ a63 k64 k65, v61 = Value.slice a63 k64 k65 ∧ Q (Value.slice a63 k64 k65) H62)) ∧
        (decide (n7 < (↑k2 : Int)) = !true →
        ∀ (k66 : Nat),
        H8 k66 = none →
        Ob ((0 : Int) ≤ 0 ∧ 0 ≤ n7 ∧ n7 ≤ (↑k3 : Int)) ∧
        EvV Proofs.Tryz.prog (Builtin.append_ #[33, 33] 33 #[Value.slice (at0 k66) 0 0, Value.slice (slA a1 0 k3 1) (n7.toNat - Int.toNat 0) (k3 - Int.toNat 0)])
        (H8.upd k66 (Obj.cells #[] 9)) fun v67 H68 =>
        ∃ a69 k70 k71,
        v67 = Value.slice a69 k70 k71 ∧
        ∀ (k72 : Nat),
        H68 k72 = none →
        EvV Proofs.Tryz.prog (Builtin.append_ #[33, 33] 33 #[Value.slice a69 k70 k71, Value.slice (at0 k72) 1 1])
        (H68.upd k72 (Obj.cells #[Value.string s4] 9)) fun v73 H74 =>
        ∃ a75 k76 k77,
        v73 = Value.slice a75 k76 k77 ∧
        Ob (0 ≤ n7 ∧ n7 ≤ (↑k2 : Int) ∧ (↑k2 : Int) ≤ (↑k3 : Int)) ∧
        EvV Proofs.Tryz.prog (Builtin.append_ #[33, 33] 33 #[Value.slice a75 k76 k77, Value.slice (slA a1 n7 k3 1) ((↑k2 : Int).toNat - n7.toNat) (k3 - n7.toNat)]) H74
        fun v78 H79 => ∃ a80 k81 k82, v78 = Value.slice a80 k81 k82 ∧ Q (Value.slice a80 k81 k82) H79))) :
    Triple Go.Proofs.Tryz.prog 11 ([Value.slice a1 k2 k3, Value.string s4]).toArray H Q :=
  Triple.of_vc refAdd.cx (by kernel_rfl) h

theorem refLessS.vc (s1 : ByteArray) (s2 : ByteArray) (H : PHeap) (Q : Value → PHeap → Prop)
    (h : ∃ (R3 : Rl) (M4 : Mu),
  R3 [Value.int IntKind.i64 0] H ∧
    ∀ (n5 : Int) (H6 : PHeap),
      R3 [Value.int IntKind.i64 n5] H6 →
        ((bif decide (n5 < (↑s1.size : Int)) then decide (n5 < (↑s2.size : Int)) else false) = true →
        ∃ H7,
        Vx.Sub H7 H6 ∧
        Ob (0 ≤ n5 ∧ n5 < (↑s1.size : Int)) ∧
        Ob (0 ≤ n5 ∧ n5 < (↑s2.size : Int)) ∧
        ((byteAt s1 n5 != byteAt s2 n5) = true →
        ∃ H8, Vx.Sub H8 H6 ∧ Ob (0 ≤ n5 ∧ n5 < (↑s1.size : Int)) ∧ Ob (0 ≤ n5 ∧ n5 < (↑s2.size : Int)) ∧ Q (Value.bool (decide (byteAt s1 n5 < byteAt s2 n5))) H6) ∧
        ((byteAt s1 n5 != byteAt s2 n5) = false →
        R3 [Value.int IntKind.i64 (IntKind.i64.wrap (n5 + 1))] H6 ∧ Less (M4 [Value.int IntKind.i64 (IntKind.i64.wrap (n5 + 1))] H6) (M4 [Value.int IntKind.i64 n5] H6))) ∧
        ((bif decide (n5 < (↑s1.size : Int)) then decide (n5 < (↑s2.size : Int)) else false) = false → Q (Value.bool (decide ((↑s1.size : Int) < (↑s2.size : Int)))) H6)) :
    Triple Go.Proofs.Tryz.prog 24 ([Value.string s1, Value.string s2]).toArray H Q :=
  Triple.of_vc refLessS.cx (by kernel_rfl) h

theorem refRight.vc (s1 : ByteArray) (H : PHeap) (Q : Value → PHeap → Prop)
    (h : ((bif decide ((↑s1.size : Int) < 1) then true else decide ((↑s1.size : Int) > 16)) = true → Q (Value.bool false) H) ∧
  ((bif decide ((↑s1.size : Int) < 1) then true else decide ((↑s1.size : Int) > 16)) = false →
    ∃ (R2 : Rl) (M3 : Mu),
      R2 [Value.int IntKind.i64 0] H ∧
        ∀ (n4 : Int) (H5 : PHeap),
        R2 [Value.int IntKind.i64 n4] H5 →
        (decide (n4 < (↑s1.size : Int)) = true →
        Ob (0 ≤ n4 ∧ n4 < (↑s1.size : Int)) ∧
        ((bif !bif decide (IntKind.i64.wrap (byteAt s1 n4) ≥ 97) then decide (IntKind.i64.wrap (byteAt s1 n4) ≤ 122) else false then
        bif !bif decide (IntKind.i64.wrap (byteAt s1 n4) ≥ 48) then decide (IntKind.i64.wrap (byteAt s1 n4) ≤ 57) else false then
        bif IntKind.i64.wrap (byteAt s1 n4) != 45 then true else n4 == 0
        else false
        else false) =
        true →
        Q (Value.bool false) H5) ∧
        ((bif !bif decide (IntKind.i64.wrap (byteAt s1 n4) ≥ 97) then decide (IntKind.i64.wrap (byteAt s1 n4) ≤ 122) else false then
        bif !bif decide (IntKind.i64.wrap (byteAt s1 n4) ≥ 48) then decide (IntKind.i64.wrap (byteAt s1 n4) ≤ 57) else false then
        bif IntKind.i64.wrap (byteAt s1 n4) != 45 then true else n4 == 0
        else false
        else false) =
        false →
        R2 [Value.int IntKind.i64 (IntKind.i64.wrap (n4 + 1))] H5 ∧ Less (M3 [Value.int IntKind.i64 (IntKind.i64.wrap (n4 + 1))] H5) (M3 [Value.int IntKind.i64 n4] H5))) ∧
        (decide (n4 < (↑s1.size : Int)) = false → Q (Value.bool true) H5))) :
    Triple Go.Proofs.Tryz.prog 74 ([Value.string s1]).toArray H Q :=
  Triple.of_vc refRight.cx (by kernel_rfl) h

theorem rSame.vc (a1 : Option Addr) (k2 : Nat) (k3 : Nat) (a4 : Option Addr) (k5 : Nat) (k6 : Nat) (H : PHeap) (Q : Value → PHeap → Prop)
    (h : (((↑k2 : Int) != (↑k5 : Int)) = true → Q (Value.bool false) H) ∧
  (((↑k2 : Int) != (↑k5 : Int)) = false →
    ∃ (R7 : Rl) (M8 : Mu),
      R7 [Value.int IntKind.i64 0] H ∧
        ∀ (n9 : Int) (H10 : PHeap),
        R7 [Value.int IntKind.i64 n9] H10 →
        (decide (n9 < (↑k2 : Int)) = true →
        ∃ H11,
        Vx.Sub H11 H10 ∧
        Ob (a1 ≠ none ∧ 0 ≤ n9 ∧ n9 < (↑k2 : Int)) ∧
        ∃ n12,
        Reads H11 (elemA a1 n9 1) [Value.int IntKind.u8 n12] ∧
        Ob (a4 ≠ none ∧ 0 ≤ n9 ∧ n9 < (↑k5 : Int)) ∧
        ∃ n13,
        Reads H11 (elemA a4 n9 1) [Value.int IntKind.u8 n13] ∧
        ((n12 != n13) = true → Q (Value.bool false) H10) ∧
        ((n12 != n13) = false →
        R7 [Value.int IntKind.i64 (IntKind.i64.wrap (n9 + 1))] H10 ∧
        Less (M8 [Value.int IntKind.i64 (IntKind.i64.wrap (n9 + 1))] H10) (M8 [Value.int IntKind.i64 n9] H10))) ∧
        (decide (n9 < (↑k2 : Int)) = false → Q (Value.bool true) H10))) :
    Triple Go.Proofs.Tryz.prog 73 ([Value.slice a1 k2 k3, Value.slice a4 k5 k6]).toArray H Q :=
  Triple.of_vc rSame.cx (by kernel_rfl) h

theorem right.vc (s1 : ByteArray) (H : PHeap) (Q : Value → PHeap → Prop)
    (h : (eqS s1 ({ data := #[] } : ByteArray) = false →
    (decide ((↑s1.size : Int) > 16) = false →
        Ob ((0 : Int) ≤ 0 ∧ 0 < (↑s1.size : Int)) ∧
        ((byteAt s1 0 == 45) = true → Q (Value.bool false) H) ∧
        ((byteAt s1 0 == 45) = false →
        ∃ (R2 : Rl) (M3 : Mu),
        R2 [Value.int IntKind.i64 0] H ∧
        ∀ (n4 : Int) (H5 : PHeap),
        R2 [Value.int IntKind.i64 n4] H5 →
        (decide (n4 < (↑s1.size : Int)) = true →
        Ob (0 ≤ n4 ∧ n4 < (↑s1.size : Int)) ∧
        Triple Proofs.Tryz.prog 49 #[Value.int IntKind.u8 (byteAt s1 n4)] H5 fun v6 H7 =>
        ∃ b8,
        v6 = Value.bool b8 ∧
        ((!b8) = true → Q (Value.bool false) H7) ∧
        ((!b8) = false →
        R2 [Value.int IntKind.i64 (IntKind.i64.wrap (n4 + 1))] H7 ∧
        Less (M3 [Value.int IntKind.i64 (IntKind.i64.wrap (n4 + 1))] H7) (M3 [Value.int IntKind.i64 n4] H5))) ∧
        (decide (n4 < (↑s1.size : Int)) = false → Q (Value.bool true) H5))) ∧
      (decide ((↑s1.size : Int) > 16) = !false → Q (Value.bool false) H)) ∧
  (eqS s1 ({ data := #[] } : ByteArray) = !false → Q (Value.bool false) H)) :
    Triple Go.Proofs.Tryz.prog 33 ([Value.string s1]).toArray H Q :=
  Triple.of_vc right.cx (by kernel_rfl) h

theorem sign.vc (n1 : Int) (H : PHeap) (Q : Value → PHeap → Prop)
    (h : Q
  (Value.bool
    (bif decide (n1 ≥ 97) then bif decide (n1 ≤ 122) then true else bif decide (n1 ≥ 48) then bif decide (n1 ≤ 57) then true else n1 == 45 else n1 == 45
    else bif decide (n1 ≥ 48) then bif decide (n1 ≤ 57) then true else n1 == 45 else n1 == 45))
  H) :
    Triple Go.Proofs.Tryz.prog 49 ([Value.int IntKind.u8 n1]).toArray H Q :=
  Triple.of_vc sign.cx (by kernel_rfl) h

theorem farS.vc (a1 : Option Addr) (k2 : Nat) (k3 : Nat) (H : PHeap) (Q : Value → PHeap → Prop)
    (h : ∃ (R4 : Rl) (M5 : Mu),
  R4 [Value.int IntKind.i64 0] H ∧
    ∀ (n6 : Int) (H7 : PHeap),
      R4 [Value.int IntKind.i64 n6] H7 →
        ((bif decide (n6 < (↑k2 : Int)) then decide (n6 < 100) else false) = true →
        Ob (a1 ≠ none ∧ 0 ≤ n6 ∧ n6 < (↑k2 : Int)) ∧
        ∃ s8,
        Reads H7 (elemA a1 n6 1) [Value.string s8] ∧
        (decide ((↑s8.size : Int) > 40) = true → Q (Value.bool true) H7) ∧
        (decide ((↑s8.size : Int) > 40) = false →
        R4 [Value.int IntKind.i64 (IntKind.i64.wrap (n6 + 1))] H7 ∧ Less (M5 [Value.int IntKind.i64 (IntKind.i64.wrap (n6 + 1))] H7) (M5 [Value.int IntKind.i64 n6] H7))) ∧
        ((bif decide (n6 < (↑k2 : Int)) then decide (n6 < 100) else false) = false → Q (Value.bool (decide ((↑k2 : Int) > 60))) H7)) :
    Triple Go.Proofs.Tryz.prog 13 ([Value.slice a1 k2 k3]).toArray H Q :=
  Triple.of_vc farS.cx (by kernel_rfl) h

end Go.Vc
