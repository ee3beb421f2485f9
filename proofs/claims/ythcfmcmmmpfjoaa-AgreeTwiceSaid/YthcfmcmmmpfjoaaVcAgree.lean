/- What is to be shown of each function, in its normal form. Printed by a program of this session's, checked by the kernel. -/
import Derived.Test.YthcfmcmmmpfjoaaE2
import Derived.Test.YthcfmcmmmpfjoaaProg
set_option linter.unusedVariables false
set_option maxRecDepth 100000
namespace Go.Vc
open Go.Vx Go
def agSettle.cx : Cx := ⟨[], [], [], []⟩
def agFix.cx : Cx := ⟨[], [], [], []⟩
def agBegin.cx : Cx := ⟨[14], [], [], []⟩
def agAll.cx : Cx := ⟨[3], [(4, [5, 24], [])], [], []⟩
def agFixM.cx : Cx := ⟨[5], [], [], []⟩
def agEnd.cx : Cx := ⟨[], [], [], []⟩
def agAsked.cx : Cx := ⟨[], [], [], []⟩
def agFixed.cx : Cx := ⟨[], [(4, [3, 17], [])], [], []⟩
def agTakes.cx : Cx := ⟨[], [], [], []⟩
def agTake.cx : Cx := ⟨[], [], [], []⟩
def agTick.cx : Cx := ⟨[], [], [], []⟩
def agDone.cx : Cx := ⟨[], [], [], []⟩

theorem agSettle.vc (n1 : Int) (n2 : Int) (n3 : Int) (n4 : Int) (n5 : Int) (n6 : Int) (n7 : Int) (s8 : ByteArray) (b9 : Bool) (H : PHeap) (Q : Value → PHeap → Prop)
    (h : Triple Proofs.Try.prog 20
  #[Value.agg #[Value.int IntKind.i64 n1, Value.int IntKind.i64 n2, Value.int IntKind.i64 n3, Value.int IntKind.i64 n4, Value.int IntKind.i64 n5, Value.int IntKind.i64 n6], Value.int IntKind.i64 n7,
    Value.string s8]
  H fun v10 H11 =>
  ∃ a12,
    v10 = Value.pointer a12 ∧
      Ob (a12 ≠ none) ∧
        Ob (a12 ≠ none) ∧
        ∃ b13,
        Reads H11 (fldA a12 10) [Value.bool b13] ∧
        (b13 = true → Q (Value.tuple #[Value.pointer a12, Value.slice none 0 0]) H11) ∧
        (b13 = false →
        Ob (a12 ≠ none) ∧
        Ob (a12 ≠ none) ∧
        ∃ H14,
        Writes H11 H14 (fldA a12 8) [Value.bool b9] ∧
        Ob (a12 ≠ none) ∧
        Ob (a12 ≠ none) ∧
        ∃ H15,
        Writes H14 H15 (fldA a12 13) [Value.func (Fn.func 21) #[] #[]] ∧
        Ob (a12 ≠ none) ∧
        Ob (a12 ≠ none) ∧
        ∃ H16,
        Writes H15 H16 (fldA a12 11) [Value.int IntKind.i64 (IntKind.i64.wrap (2 * n7))] ∧
        Triple Proofs.Try.prog 22
        #[Value.pointer a12,
        Value.agg
        #[Value.int IntKind.i64 1, Value.int IntKind.i64 0, Value.int IntKind.i64 0, Value.int IntKind.i64 0, Value.string ({ data := #[] } : ByteArray),
        Value.int IntKind.i64 0, Value.int IntKind.i64 0, Value.int IntKind.i64 0, Value.int IntKind.i64 0, Value.int IntKind.i64 0, Value.slice none 0 0,
        Value.slice none 0 0, Value.slice none 0 0]]
        H16 fun v17 H18 => ∃ a19 k20 k21, v17 = Value.slice a19 k20 k21 ∧ Q (Value.tuple #[Value.pointer a12, Value.slice a19 k20 k21]) H18)) :
    Triple Go.Proofs.Try.prog 9 ([Value.agg #[Value.int IntKind.i64 n1, Value.int IntKind.i64 n2, Value.int IntKind.i64 n3, Value.int IntKind.i64 n4, Value.int IntKind.i64 n5, Value.int IntKind.i64 n6], Value.int IntKind.i64 n7,
  Value.string s8, Value.bool b9]).toArray H Q :=
  Triple.of_vc agSettle.cx (by kernel_rfl) h

theorem agFix.vc (n1 : Int) (n2 : Int) (n3 : Int) (n4 : Int) (n5 : Int) (n6 : Int) (n7 : Int) (s8 : ByteArray) (b9 : Bool) (n10 : Int) (n11 : Int) (n12 : Int) (b13 : Bool) (H : PHeap) (Q : Value → PHeap → Prop)
    (h : Triple Proofs.Try.prog 20
  #[Value.agg #[Value.int IntKind.i64 n1, Value.int IntKind.i64 n2, Value.int IntKind.i64 n3, Value.int IntKind.i64 n4, Value.int IntKind.i64 n5, Value.int IntKind.i64 n6], Value.int IntKind.i64 n7,
    Value.string s8]
  H fun v14 H15 =>
  ∃ a16,
    v14 = Value.pointer a16 ∧
      Ob (a16 ≠ none) ∧
        Ob (a16 ≠ none) ∧
        ∃ b17,
        Reads H15 (fldA a16 10) [Value.bool b17] ∧
        (b17 = true → Q (Value.tuple #[Value.pointer a16, Value.slice none 0 0]) H15) ∧
        (b17 = false →
        Ob (a16 ≠ none) ∧
        Ob (a16 ≠ none) ∧
        ∃ H18,
        Writes H15 H18 (fldA a16 9) [Value.bool b13] ∧
        Ob (a16 ≠ none) ∧
        Ob (a16 ≠ none) ∧
        ∃ H19,
        Writes H18 H19 (fldA a16 11) [Value.int IntKind.i64 (IntKind.i64.wrap (IntKind.i64.wrap (2 * n7) + 1))] ∧
        Triple Proofs.Try.prog 42 #[Value.pointer a16, Value.agg #[Value.bool b9, Value.int IntKind.i64 n10, Value.int IntKind.i64 n11, Value.int IntKind.i64 n12]] H19
        fun v20 H21 => ∃ a22 k23 k24, v20 = Value.slice a22 k23 k24 ∧ Q (Value.tuple #[Value.pointer a16, Value.slice a22 k23 k24]) H21)) :
    Triple Go.Proofs.Try.prog 28 ([Value.agg #[Value.int IntKind.i64 n1, Value.int IntKind.i64 n2, Value.int IntKind.i64 n3, Value.int IntKind.i64 n4, Value.int IntKind.i64 n5, Value.int IntKind.i64 n6], Value.int IntKind.i64 n7,
  Value.string s8, Value.agg #[Value.bool b9, Value.int IntKind.i64 n10, Value.int IntKind.i64 n11, Value.int IntKind.i64 n12], Value.bool b13]).toArray H Q :=
  Triple.of_vc agFix.cx (by kernel_rfl) h

theorem agBegin.vc (n1 : Int) (n2 : Int) (n3 : Int) (n4 : Int) (n5 : Int) (n6 : Int) (n7 : Int) (s8 : ByteArray) (H : PHeap) (Q : Value → PHeap → Prop)
    (h : ∃ H9,
  Vx.Sub H9 H ∧
    Triple Proofs.Try.prog 39 #[Value.agg #[Value.int IntKind.i64 n1, Value.int IntKind.i64 n2, Value.int IntKind.i64 n3, Value.int IntKind.i64 n4, Value.int IntKind.i64 n5, Value.int IntKind.i64 n6]]
      H fun v10 H11 =>
      ∃ b12,
        v10 = Value.bool b12 ∧
        Vx.Sub H9 H11 ∧
        ∀ (k13 : Nat),
        H11 k13 = none →
        Q (Value.pointer (at0 k13))
        (H11.upd k13
        (Obj.cells
        #[Value.int IntKind.i64 n1, Value.int IntKind.i64 n2, Value.int IntKind.i64 n3, Value.int IntKind.i64 n4, Value.int IntKind.i64 n5, Value.int IntKind.i64 n6,
        Value.int IntKind.i64 n7, Value.string s8, Value.bool false, Value.bool false, Value.bool !b12, Value.int IntKind.i64 0, Value.pointer none, Value.nilFunc, Value.bool false,
        Value.bool false, Value.bool false, Value.int IntKind.i64 0, Value.int IntKind.i64 0, Value.int IntKind.i64 0, Value.slice none 0 0, Value.slice none 0 0, Value.slice none 0 0]
        66))) :
    Triple Go.Proofs.Try.prog 20 ([Value.agg #[Value.int IntKind.i64 n1, Value.int IntKind.i64 n2, Value.int IntKind.i64 n3, Value.int IntKind.i64 n4, Value.int IntKind.i64 n5, Value.int IntKind.i64 n6], Value.int IntKind.i64 n7,
  Value.string s8]).toArray H Q :=
  Triple.of_vc agBegin.cx (by kernel_rfl) h

theorem agAll.vc (a1 : Option Addr) (n2 : Int) (n3 : Int) (n4 : Int) (n5 : Int) (s6 : ByteArray) (n7 : Int) (n8 : Int) (n9 : Int) (n10 : Int) (n11 : Int) (a12 : Option Addr) (k13 : Nat) (k14 : Nat) (a15 : Option Addr) (k16 : Nat) (k17 : Nat) (a18 : Option Addr) (k19 : Nat) (k20 : Nat) (H : PHeap) (Q : Value → PHeap → Prop)
    (h : ∀ (k21 : Nat),
  H k21 = none →
    ∃ H22,
      Vx.Sub H22
        (H.upd k21
        (Obj.cells
        #[Value.int IntKind.i64 n2, Value.int IntKind.i64 n3, Value.int IntKind.i64 n4, Value.int IntKind.i64 n5, Value.string s6, Value.int IntKind.i64 n7, Value.int IntKind.i64 n8,
        Value.int IntKind.i64 n9, Value.int IntKind.i64 n10, Value.int IntKind.i64 n11, Value.slice a12 k13 k14, Value.slice a15 k16 k17, Value.slice a18 k19 k20]
        32)) ∧
        Ob (a1 ≠ none) ∧
        Ob (a1 ≠ none) ∧
        ∃ n23,
        Reads H22 (fldA a1 6) [Value.int IntKind.i64 n23] ∧
        Ob (a1 ≠ none) ∧
        Ob (a1 ≠ none) ∧
        ∃ s24,
        Reads H22 (fldA a1 7) [Value.string s24] ∧
        Ob (at0 k21 ≠ none) ∧
        ∃ H25,
        Writes
        (H.upd k21
        (Obj.cells
        #[Value.int IntKind.i64 n2, Value.int IntKind.i64 n3, Value.int IntKind.i64 n4, Value.int IntKind.i64 n5, Value.string s6, Value.int IntKind.i64 n7,
        Value.int IntKind.i64 n8, Value.int IntKind.i64 n9, Value.int IntKind.i64 n10, Value.int IntKind.i64 n11, Value.slice a12 k13 k14, Value.slice a15 k16 k17,
        Value.slice a18 k19 k20]
        32))
        H25 (fldA (at0 k21) 3) [Value.int IntKind.i64 n23] ∧
        Vx.Sub H22 H25 ∧
        Ob (at0 k21 ≠ none) ∧
        ∃ H26,
        Writes H25 H26 (fldA (at0 k21) 4) [Value.string s24] ∧
        Ob (a1 ≠ none) ∧
        Ob (a1 ≠ none) ∧
        ∃ n27 n28 n29 n30 n31 n32,
        Reads H26 (fldA a1 0)
        [Value.int IntKind.i64 n27, Value.int IntKind.i64 n28, Value.int IntKind.i64 n29, Value.int IntKind.i64 n30, Value.int IntKind.i64 n31,
        Value.int IntKind.i64 n32] ∧
        Triple Proofs.Try.prog 43
        #[Value.agg
        #[Value.int IntKind.i64 n27, Value.int IntKind.i64 n28, Value.int IntKind.i64 n29, Value.int IntKind.i64 n30, Value.int IntKind.i64 n31,
        Value.int IntKind.i64 n32]]
        H26 fun v33 H34 =>
        ∃ a35 k36 k37,
        v33 = Value.slice a35 k36 k37 ∧
        ∃ (R38 : Rl) (M39 : Mu),
        R38 [Value.slice none 0 0, Value.int IntKind.i64 0] H34 ∧
        ∀ (a40 : Option Addr) (k41 k42 : Nat) (n43 : Int) (H44 : PHeap),
        R38 [Value.slice a40 k41 k42, Value.int IntKind.i64 n43] H44 →
        (decide (n43 < (↑k36 : Int)) = true →
        Ob (a35 ≠ none ∧ 0 ≤ n43 ∧ n43 < (↑k36 : Int)) ∧
        ∃ n45,
        Reads H44 (elemA a35 n43 1) [Value.int IntKind.i64 n45] ∧
        Ob (at0 k21 ≠ none) ∧
        ∃ H46,
        Writes H44 H46 (fldA (at0 k21) 2) [Value.int IntKind.i64 n45] ∧
        ∃ n47 n48 n49 n50 s51 n52 n53 n54 n55 n56 a57 k58 k59 a60 k61 k62 a63 k64 k65,
        Reads H46 (at0 k21)
        [Value.int IntKind.i64 n47, Value.int IntKind.i64 n48, Value.int IntKind.i64 n49, Value.int IntKind.i64 n50,
        Value.string s51, Value.int IntKind.i64 n52, Value.int IntKind.i64 n53, Value.int IntKind.i64 n54,
        Value.int IntKind.i64 n55, Value.int IntKind.i64 n56, Value.slice a57 k58 k59, Value.slice a60 k61 k62,
        Value.slice a63 k64 k65] ∧
        ∀ (k66 : Nat),
        H46 k66 = none →
        EvV Proofs.Try.prog
        (Builtin.append_ #[24, 24] 24 #[Value.slice a40 k41 k42, Value.slice (at0 k66) 1 1])
        (H46.upd k66
        (Obj.cells
        #[Value.int IntKind.i64 n47, Value.int IntKind.i64 n48, Value.int IntKind.i64 n49, Value.int IntKind.i64 n50,
        Value.string s51, Value.int IntKind.i64 n52, Value.int IntKind.i64 n53, Value.int IntKind.i64 n54,
        Value.int IntKind.i64 n55, Value.int IntKind.i64 n56, Value.slice a57 k58 k59, Value.slice a60 k61 k62,
        Value.slice a63 k64 k65]
        32))
        fun v67 H68 =>
        ∃ a69 k70 k71,
        v67 = Value.slice a69 k70 k71 ∧
        R38 [Value.slice a69 k70 k71, Value.int IntKind.i64 (IntKind.i64.wrap (n43 + 1))] H68 ∧
        Less (M39 [Value.slice a69 k70 k71, Value.int IntKind.i64 (IntKind.i64.wrap (n43 + 1))] H68)
        (M39 [Value.slice a40 k41 k42, Value.int IntKind.i64 n43] H44)) ∧
        (decide (n43 < (↑k36 : Int)) = false →
        ∃ H72,
        Vx.Sub H72 H44 ∧
        Ob (a1 ≠ none) ∧
        Ob (a1 ≠ none) ∧
        Ob (fldA a1 0 ≠ none) ∧
        ∃ n73,
        Reads H72 (fldA (fldA a1 0) 5) [Value.int IntKind.i64 n73] ∧
        Ob (a1 ≠ none) ∧
        Ob (a1 ≠ none) ∧
        ∃ n74 n75 n76 n77 n78 n79,
        Reads H72 (fldA a1 0)
        [Value.int IntKind.i64 n74, Value.int IntKind.i64 n75, Value.int IntKind.i64 n76, Value.int IntKind.i64 n77,
        Value.int IntKind.i64 n78, Value.int IntKind.i64 n79] ∧
        Triple Proofs.Try.prog 43
        #[Value.agg
        #[Value.int IntKind.i64 n74, Value.int IntKind.i64 n75, Value.int IntKind.i64 n76,
        Value.int IntKind.i64 n77, Value.int IntKind.i64 n78, Value.int IntKind.i64 n79]]
        H44 fun v80 H81 =>
        ∃ a82 k83 k84,
        v80 = Value.slice a82 k83 k84 ∧
        Vx.Sub H72 H81 ∧
        Triple Proofs.Try.prog 44 #[Value.int IntKind.i64 n73, Value.slice a40 k41 k42, Value.slice a82 k83 k84]
        H81 fun v85 H86 =>
        ∃ a87,
        v85 = Value.pointer a87 ∧
        Ob (a1 ≠ none) ∧
        Ob (a1 ≠ none) ∧
        ∃ H88, Writes H86 H88 (fldA a1 12) [Value.pointer a87] ∧ Q (Value.slice a40 k41 k42) H88)) :
    Triple Go.Proofs.Try.prog 22 ([Value.pointer a1,
  Value.agg
    #[Value.int IntKind.i64 n2, Value.int IntKind.i64 n3, Value.int IntKind.i64 n4, Value.int IntKind.i64 n5, Value.string s6, Value.int IntKind.i64 n7, Value.int IntKind.i64 n8,
      Value.int IntKind.i64 n9, Value.int IntKind.i64 n10, Value.int IntKind.i64 n11, Value.slice a12 k13 k14, Value.slice a15 k16 k17, Value.slice a18 k19 k20]]).toArray H Q :=
  Triple.of_vc agAll.cx (by kernel_rfl) h

theorem agFixM.vc (a1 : Option Addr) (b2 : Bool) (n3 : Int) (n4 : Int) (n5 : Int) (H : PHeap) (Q : Value → PHeap → Prop)
    (h : ∃ H6,
  Vx.Sub H6 H ∧
    Ob (a1 ≠ none) ∧
      Ob (a1 ≠ none) ∧
        Ob (fldA a1 14 ≠ none) ∧
        ∃ H7,
        Writes H H7 (fldA (fldA a1 14) 1) [Value.bool true] ∧
        Vx.Sub H6 H7 ∧
        Ob (a1 ≠ none) ∧
        Ob (a1 ≠ none) ∧
        Ob (fldA a1 14 ≠ none) ∧
        ∃ H8,
        Writes H7 H8 (fldA (fldA a1 14) 2) [Value.bool b2, Value.int IntKind.i64 n3, Value.int IntKind.i64 n4, Value.int IntKind.i64 n5] ∧
        Ob (a1 ≠ none) ∧
        Ob (a1 ≠ none) ∧
        ∃ H9,
        Writes H8 H9 (fldA a1 13) [Value.func (Fn.func 70) #[] #[]] ∧
        Ob (a1 ≠ none) ∧
        Ob (a1 ≠ none) ∧
        ∃ n10,
        Reads H9 (fldA a1 11) [Value.int IntKind.i64 n10] ∧
        ∀ (k11 : Nat),
        H9 k11 = none →
        ∃ H12,
        Writes
        (H9.upd k11
        (Obj.cells
        #[Value.int IntKind.i64 0, Value.int IntKind.i64 0, Value.int IntKind.i64 0, Value.int IntKind.i64 0, Value.string ({ data := #[] } : ByteArray),
        Value.int IntKind.i64 0, Value.int IntKind.i64 0, Value.int IntKind.i64 0, Value.int IntKind.i64 0, Value.int IntKind.i64 0,
        Value.slice none 0 0, Value.slice none 0 0, Value.slice none 0 0]
        32))
        H12 (at0 k11)
        [Value.int IntKind.i64 4, Value.int IntKind.i64 0, Value.int IntKind.i64 0, Value.int IntKind.i64 0, Value.string ({ data := #[] } : ByteArray),
        Value.int IntKind.i64 0, Value.int IntKind.i64 0, Value.int IntKind.i64 n10, Value.int IntKind.i64 0, Value.int IntKind.i64 0,
        Value.slice none 0 0, Value.slice none 0 0, Value.slice none 0 0] ∧
        (b2 = true →
        ∃ H13,
        Vx.Sub H13 H12 ∧
        Ob (at0 k11 ≠ none) ∧
        ∃ H14,
        Writes H12 H14 (fldA (at0 k11) 9) [Value.int IntKind.i64 1] ∧
        Vx.Sub H13 H14 ∧
        Ob (at0 k11 ≠ none) ∧
        ∃ H15,
        Writes H14 H15 (fldA (at0 k11) 5) [Value.int IntKind.i64 n3] ∧
        Vx.Sub H13 H15 ∧
        Ob (at0 k11 ≠ none) ∧
        ∃ H16,
        Writes H15 H16 (fldA (at0 k11) 6) [Value.int IntKind.i64 n4] ∧
        Vx.Sub H13 H16 ∧
        Ob (at0 k11 ≠ none) ∧
        ∃ H17,
        Writes H16 H17 (fldA (at0 k11) 8) [Value.int IntKind.i64 n5] ∧
        ∃ n18 n19 n20 n21 s22 n23 n24 n25 n26 n27 a28 k29 k30 a31 k32 k33 a34 k35 k36,
        Reads H17 (at0 k11)
        [Value.int IntKind.i64 n18, Value.int IntKind.i64 n19, Value.int IntKind.i64 n20,
        Value.int IntKind.i64 n21, Value.string s22, Value.int IntKind.i64 n23, Value.int IntKind.i64 n24,
        Value.int IntKind.i64 n25, Value.int IntKind.i64 n26, Value.int IntKind.i64 n27,
        Value.slice a28 k29 k30, Value.slice a31 k32 k33, Value.slice a34 k35 k36] ∧
        Triple Proofs.Try.prog 22
        #[Value.pointer a1,
        Value.agg
        #[Value.int IntKind.i64 n18, Value.int IntKind.i64 n19, Value.int IntKind.i64 n20,
        Value.int IntKind.i64 n21, Value.string s22, Value.int IntKind.i64 n23, Value.int IntKind.i64 n24,
        Value.int IntKind.i64 n25, Value.int IntKind.i64 n26, Value.int IntKind.i64 n27,
        Value.slice a28 k29 k30, Value.slice a31 k32 k33, Value.slice a34 k35 k36]]
        H17 fun v37 H38 => ∃ a39 k40 k41, v37 = Value.slice a39 k40 k41 ∧ Q (Value.slice a39 k40 k41) H38) ∧
        (b2 = false →
        ∃ n42 n43 n44 n45 s46 n47 n48 n49 n50 n51 a52 k53 k54 a55 k56 k57 a58 k59 k60,
        Reads H12 (at0 k11)
        [Value.int IntKind.i64 n42, Value.int IntKind.i64 n43, Value.int IntKind.i64 n44, Value.int IntKind.i64 n45, Value.string s46,
        Value.int IntKind.i64 n47, Value.int IntKind.i64 n48, Value.int IntKind.i64 n49, Value.int IntKind.i64 n50, Value.int IntKind.i64 n51,
        Value.slice a52 k53 k54, Value.slice a55 k56 k57, Value.slice a58 k59 k60] ∧
        Triple Proofs.Try.prog 22
        #[Value.pointer a1,
        Value.agg
        #[Value.int IntKind.i64 n42, Value.int IntKind.i64 n43, Value.int IntKind.i64 n44, Value.int IntKind.i64 n45, Value.string s46,
        Value.int IntKind.i64 n47, Value.int IntKind.i64 n48, Value.int IntKind.i64 n49, Value.int IntKind.i64 n50, Value.int IntKind.i64 n51,
        Value.slice a52 k53 k54, Value.slice a55 k56 k57, Value.slice a58 k59 k60]]
        H12 fun v61 H62 => ∃ a63 k64 k65, v61 = Value.slice a63 k64 k65 ∧ Q (Value.slice a63 k64 k65) H62)) :
    Triple Go.Proofs.Try.prog 42 ([Value.pointer a1, Value.agg #[Value.bool b2, Value.int IntKind.i64 n3, Value.int IntKind.i64 n4, Value.int IntKind.i64 n5]]).toArray H Q :=
  Triple.of_vc agFixM.cx (by kernel_rfl) h

theorem agEnd.vc (a1 : Option Addr) (b2 : Bool) (H : PHeap) (Q : Value → PHeap → Prop)
    (h : Ob (a1 ≠ none) ∧
  Ob (a1 ≠ none) ∧
    ∃ H3, Writes H H3 (fldA a1 10) [Value.bool true] ∧ Ob (a1 ≠ none) ∧ Ob (a1 ≠ none) ∧ Ob (fldA a1 14 ≠ none) ∧ ∃ H4, Writes H3 H4 (fldA (fldA a1 14) 0) [Value.bool b2] ∧ Q (Value.slice none 0 0) H4) :
    Triple Go.Proofs.Try.prog 24 ([Value.pointer a1, Value.bool b2]).toArray H Q :=
  Triple.of_vc agEnd.cx (by kernel_rfl) h

theorem agAsked.vc (a1 : Option Addr) (H : PHeap) (Q : Value → PHeap → Prop)
    (h : Ob (a1 ≠ none) ∧
  Ob (a1 ≠ none) ∧
    ∃ a2,
      Reads H (fldA a1 12) [Value.pointer a2] ∧
        Triple Proofs.Try.prog 40 #[Value.pointer a2] H fun v3 H4 =>
        ∃ a5 k6 k7,
        v3 = Value.slice a5 k6 k7 ∧
        Ob (a1 ≠ none) ∧
        Ob (a1 ≠ none) ∧
        ∃ n8 n9 n10 n11 n12 n13,
        Reads H4 (fldA a1 0)
        [Value.int IntKind.i64 n8, Value.int IntKind.i64 n9, Value.int IntKind.i64 n10, Value.int IntKind.i64 n11, Value.int IntKind.i64 n12, Value.int IntKind.i64 n13] ∧
        Triple Proofs.Try.prog 41
        #[Value.agg #[Value.int IntKind.i64 n8, Value.int IntKind.i64 n9, Value.int IntKind.i64 n10, Value.int IntKind.i64 n11, Value.int IntKind.i64 n12, Value.int IntKind.i64 n13],
        Value.slice a5 k6 k7]
        H4 fun v14 H15 =>
        ∃ b16 b17 b18 n19 n20 n21 n22 a23 k24 k25,
        v14 =
        Value.agg
        #[Value.bool b16, Value.bool b17, Value.bool b18, Value.int IntKind.i64 n19, Value.int IntKind.i64 n20, Value.int IntKind.i64 n21, Value.int IntKind.i64 n22,
        Value.slice a23 k24 k25] ∧
        ((!b16) = true →
        Ob (a1 ≠ none) ∧
        Ob (a1 ≠ none) ∧
        ∃ a26,
        Reads H15 (fldA a1 12) [Value.pointer a26] ∧
        Triple Proofs.Try.prog 27 #[Value.pointer a26] H15 fun v27 H28 =>
        ∃ b29,
        v27 = Value.bool b29 ∧
        (b29 = true →
        Triple Proofs.Try.prog 24 #[Value.pointer a1, Value.bool false] H28 fun v30 H31 =>
        ∃ a32 k33 k34, v30 = Value.slice a32 k33 k34 ∧ Q (Value.slice a32 k33 k34) H31) ∧
        (b29 = false →
        ((!b16) = true → Q (Value.slice none 0 0) H28) ∧
        ((!b16) = false →
        Ob (a1 ≠ none) ∧
        Ob (a1 ≠ none) ∧
        Ob (fldA a1 14 ≠ none) ∧
        ∃ H35,
        Writes H28 H35 (fldA (fldA a1 14) 8) [Value.slice a5 k6 k7] ∧
        (b17 = true →
        Ob (a1 ≠ none) ∧
        Ob (a1 ≠ none) ∧
        ∃ b36,
        Reads H35 (fldA a1 8) [Value.bool b36] ∧
        ((!b36) = true →
        ∃ H37,
        Vx.Sub H37 H35 ∧
        Ob (a1 ≠ none) ∧
        Ob (a1 ≠ none) ∧
        Ob (fldA a1 14 ≠ none) ∧
        ∃ H38,
        Writes H35 H38 (fldA (fldA a1 14) 2)
        [Value.bool b18, Value.int IntKind.i64 n19, Value.int IntKind.i64 n20, Value.int IntKind.i64 n21] ∧
        Vx.Sub H37 H38 ∧
        Ob (a1 ≠ none) ∧
        Ob (a1 ≠ none) ∧
        Ob (fldA a1 14 ≠ none) ∧
        ∃ H39,
        Writes H38 H39 (fldA (fldA a1 14) 6) [Value.slice a23 k24 k25] ∧
        Triple Proofs.Try.prog 24 #[Value.pointer a1, Value.bool true] H39 fun v40 H41 =>
        ∃ a42 k43 k44, v40 = Value.slice a42 k43 k44 ∧ Q (Value.slice a42 k43 k44) H41) ∧
        ((!b36) = false →
        Triple Proofs.Try.prog 42
        #[Value.pointer a1,
        Value.agg #[Value.bool b18, Value.int IntKind.i64 n19, Value.int IntKind.i64 n20, Value.int IntKind.i64 n21]]
        H35 fun v45 H46 => ∃ a47 k48 k49, v45 = Value.slice a47 k48 k49 ∧ Q (Value.slice a47 k48 k49) H46)) ∧
        (b17 = !true →
        Triple Proofs.Try.prog 42
        #[Value.pointer a1, Value.agg #[Value.bool b18, Value.int IntKind.i64 n19, Value.int IntKind.i64 n20, Value.int IntKind.i64 n21]]
        H35 fun v50 H51 => ∃ a52 k53 k54, v50 = Value.slice a52 k53 k54 ∧ Q (Value.slice a52 k53 k54) H51)))) ∧
        ((!b16) = !true →
        ((!b16) = true → Q (Value.slice none 0 0) H15) ∧
        ((!b16) = false →
        Ob (a1 ≠ none) ∧
        Ob (a1 ≠ none) ∧
        Ob (fldA a1 14 ≠ none) ∧
        ∃ H55,
        Writes H15 H55 (fldA (fldA a1 14) 8) [Value.slice a5 k6 k7] ∧
        (b17 = true →
        Ob (a1 ≠ none) ∧
        Ob (a1 ≠ none) ∧
        ∃ b56,
        Reads H55 (fldA a1 8) [Value.bool b56] ∧
        ((!b56) = true →
        ∃ H57,
        Vx.Sub H57 H55 ∧
        Ob (a1 ≠ none) ∧
        Ob (a1 ≠ none) ∧
        Ob (fldA a1 14 ≠ none) ∧
        ∃ H58,
        Writes H55 H58 (fldA (fldA a1 14) 2)
        [Value.bool b18, Value.int IntKind.i64 n19, Value.int IntKind.i64 n20, Value.int IntKind.i64 n21] ∧
        Vx.Sub H57 H58 ∧
        Ob (a1 ≠ none) ∧
        Ob (a1 ≠ none) ∧
        Ob (fldA a1 14 ≠ none) ∧
        ∃ H59,
        Writes H58 H59 (fldA (fldA a1 14) 6) [Value.slice a23 k24 k25] ∧
        Triple Proofs.Try.prog 24 #[Value.pointer a1, Value.bool true] H59 fun v60 H61 =>
        ∃ a62 k63 k64, v60 = Value.slice a62 k63 k64 ∧ Q (Value.slice a62 k63 k64) H61) ∧
        ((!b56) = false →
        Triple Proofs.Try.prog 42
        #[Value.pointer a1, Value.agg #[Value.bool b18, Value.int IntKind.i64 n19, Value.int IntKind.i64 n20, Value.int IntKind.i64 n21]] H55
        fun v65 H66 => ∃ a67 k68 k69, v65 = Value.slice a67 k68 k69 ∧ Q (Value.slice a67 k68 k69) H66)) ∧
        (b17 = !true →
        Triple Proofs.Try.prog 42
        #[Value.pointer a1, Value.agg #[Value.bool b18, Value.int IntKind.i64 n19, Value.int IntKind.i64 n20, Value.int IntKind.i64 n21]] H55 fun v70 H71 =>
        ∃ a72 k73 k74, v70 = Value.slice a72 k73 k74 ∧ Q (Value.slice a72 k73 k74) H71)))) :
    Triple Go.Proofs.Try.prog 21 ([Value.pointer a1]).toArray H Q :=
  Triple.of_vc agAsked.cx (by kernel_rfl) h

theorem agFixed.vc (a1 : Option Addr) (H : PHeap) (Q : Value → PHeap → Prop)
    (h : Ob (a1 ≠ none) ∧
  Ob (a1 ≠ none) ∧
    Ob (fldA a1 14 ≠ none) ∧
      ∃ H2,
        Writes H H2 (fldA (fldA a1 14) 7) [Value.slice none 0 0] ∧
        Ob (a1 ≠ none) ∧
        Ob (a1 ≠ none) ∧
        ∃ a3,
        Reads H2 (fldA a1 12) [Value.pointer a3] ∧
        Triple Proofs.Try.prog 40 #[Value.pointer a3] H2 fun v4 H5 =>
        ∃ a6 k7 k8,
        v4 = Value.slice a6 k7 k8 ∧
        ∃ (R9 : Rl) (M10 : Mu),
        R9 [Value.slice none 0 0, Value.int IntKind.i64 0] H5 ∧
        ∀ (a11 : Option Addr) (k12 k13 : Nat) (n14 : Int) (H15 : PHeap),
        R9 [Value.slice a11 k12 k13, Value.int IntKind.i64 n14] H15 →
        (decide (n14 < (↑k7 : Int)) = true →
        Ob (a6 ≠ none ∧ 0 ≤ n14 ∧ n14 < (↑k7 : Int)) ∧
        ∃ n16 n17 n18 n19 s20 n21 n22 n23 n24 n25 a26 k27 k28 a29 k30 k31 a32 k33 k34,
        Reads H15 (elemA a6 n14 13)
        [Value.int IntKind.i64 n16, Value.int IntKind.i64 n17, Value.int IntKind.i64 n18, Value.int IntKind.i64 n19, Value.string s20, Value.int IntKind.i64 n21,
        Value.int IntKind.i64 n22, Value.int IntKind.i64 n23, Value.int IntKind.i64 n24, Value.int IntKind.i64 n25, Value.slice a26 k27 k28,
        Value.slice a29 k30 k31, Value.slice a32 k33 k34] ∧
        ((n16 == 17) = true →
        ∀ (k35 : Nat),
        H15 k35 = none →
        EvV Proofs.Try.prog (Builtin.append_ #[24, 24] 24 #[Value.slice a11 k12 k13, Value.slice (at0 k35) 1 1])
        (H15.upd k35
        (Obj.cells
        #[Value.int IntKind.i64 n16, Value.int IntKind.i64 n17, Value.int IntKind.i64 n18, Value.int IntKind.i64 n19, Value.string s20,
        Value.int IntKind.i64 n21, Value.int IntKind.i64 n22, Value.int IntKind.i64 n23, Value.int IntKind.i64 n24, Value.int IntKind.i64 n25,
        Value.slice a26 k27 k28, Value.slice a29 k30 k31, Value.slice a32 k33 k34]
        32))
        fun v36 H37 =>
        ∃ a38 k39 k40,
        v36 = Value.slice a38 k39 k40 ∧
        ∃ H41,
        Vx.Sub H41 H37 ∧
        Ob (a1 ≠ none) ∧
        Ob (a1 ≠ none) ∧
        Ob (fldA a1 14 ≠ none) ∧
        ∃ a42 k43 k44,
        Reads H41 (fldA (fldA a1 14) 7) [Value.slice a42 k43 k44] ∧
        ∀ (k45 : Nat),
        H37 k45 = none →
        Vx.Sub H41 (H37.upd k45 (Obj.cells #[Value.int IntKind.i64 n17] 3)) ∧
        EvV Proofs.Try.prog
        (Builtin.append_ #[29, 29] 29 #[Value.slice a42 k43 k44, Value.slice (at0 k45) 1 1])
        (H37.upd k45 (Obj.cells #[Value.int IntKind.i64 n17] 3)) fun v46 H47 =>
        ∃ a48 k49 k50,
        v46 = Value.slice a48 k49 k50 ∧
        Ob (a1 ≠ none) ∧
        Ob (a1 ≠ none) ∧
        Ob (fldA a1 14 ≠ none) ∧
        ∃ H51,
        Writes H47 H51 (fldA (fldA a1 14) 7) [Value.slice a48 k49 k50] ∧
        R9 [Value.slice a38 k39 k40, Value.int IntKind.i64 (IntKind.i64.wrap (n14 + 1))] H51 ∧
        Less (M10 [Value.slice a38 k39 k40, Value.int IntKind.i64 (IntKind.i64.wrap (n14 + 1))] H51)
        (M10 [Value.slice a11 k12 k13, Value.int IntKind.i64 n14] H15)) ∧
        ((n16 == 17) = false →
        R9 [Value.slice a11 k12 k13, Value.int IntKind.i64 (IntKind.i64.wrap (n14 + 1))] H15 ∧
        Less (M10 [Value.slice a11 k12 k13, Value.int IntKind.i64 (IntKind.i64.wrap (n14 + 1))] H15)
        (M10 [Value.slice a11 k12 k13, Value.int IntKind.i64 n14] H15))) ∧
        (decide (n14 < (↑k7 : Int)) = false →
        Ob (a1 ≠ none) ∧
        Ob (a1 ≠ none) ∧
        Ob (fldA a1 14 ≠ none) ∧
        ∃ b52 n53 n54 n55,
        Reads H15 (fldA (fldA a1 14) 2) [Value.bool b52, Value.int IntKind.i64 n53, Value.int IntKind.i64 n54, Value.int IntKind.i64 n55] ∧
        Triple Proofs.Try.prog 69
        #[Value.slice a11 k12 k13, Value.agg #[Value.bool b52, Value.int IntKind.i64 n53, Value.int IntKind.i64 n54, Value.int IntKind.i64 n55]] H15
        fun v56 H57 =>
        ∃ a58 k59 k60,
        v56 = Value.slice a58 k59 k60 ∧
        Ob (a1 ≠ none) ∧
        Ob (a1 ≠ none) ∧
        Ob (fldA a1 14 ≠ none) ∧
        ∃ H61,
        Writes H57 H61 (fldA (fldA a1 14) 6) [Value.slice a58 k59 k60] ∧
        Ob (a1 ≠ none) ∧
        Ob (a1 ≠ none) ∧
        ∃ b62,
        Reads H61 (fldA a1 9) [Value.bool b62] ∧
        (b62 = true →
        Ob (a1 ≠ none) ∧
        Ob (a1 ≠ none) ∧
        Ob (fldA a1 14 ≠ none) ∧
        ∃ a63 k64 k65,
        Reads H61 (fldA (fldA a1 14) 6) [Value.slice a63 k64 k65] ∧
        Ob (a1 ≠ none) ∧
        Ob (a1 ≠ none) ∧
        Ob (fldA a1 0 ≠ none) ∧
        ∃ n66,
        Reads H61 (fldA (fldA a1 0) 3) [Value.int IntKind.i64 n66] ∧
        (decide ((↑k64 : Int) ≥ n66) = false →
        Ob (a1 ≠ none) ∧
        Ob (a1 ≠ none) ∧
        ∃ a67,
        Reads H61 (fldA a1 12) [Value.pointer a67] ∧
        Triple Proofs.Try.prog 27 #[Value.pointer a67] H61 fun v68 H69 =>
        ∃ b70,
        v68 = Value.bool b70 ∧
        (b70 = true →
        Ob (a1 ≠ none) ∧
        Ob (a1 ≠ none) ∧
        Ob (fldA a1 0 ≠ none) ∧
        ∃ n71,
        Reads H69 (fldA (fldA a1 0) 3) [Value.int IntKind.i64 n71] ∧
        Triple Proofs.Try.prog 24
        #[Value.pointer a1, Value.bool (decide ((↑k64 : Int) ≥ n71))] H69
        fun v72 H73 =>
        ∃ a74 k75 k76,
        v72 = Value.slice a74 k75 k76 ∧ Q (Value.slice a74 k75 k76) H73) ∧
        (b70 = false → Q (Value.slice none 0 0) H69)) ∧
        (decide ((↑k64 : Int) ≥ n66) = !false →
        Ob (a1 ≠ none) ∧
        Ob (a1 ≠ none) ∧
        Ob (fldA a1 0 ≠ none) ∧
        ∃ n77,
        Reads H61 (fldA (fldA a1 0) 3) [Value.int IntKind.i64 n77] ∧
        Triple Proofs.Try.prog 24 #[Value.pointer a1, Value.bool (decide ((↑k64 : Int) ≥ n77))] H61
        fun v78 H79 =>
        ∃ a80 k81 k82, v78 = Value.slice a80 k81 k82 ∧ Q (Value.slice a80 k81 k82) H79)) ∧
        (b62 = false →
        Ob (a1 ≠ none) ∧
        Ob (a1 ≠ none) ∧
        Ob (fldA a1 0 ≠ none) ∧
        ∃ n83,
        Reads H61 (fldA (fldA a1 0) 3) [Value.int IntKind.i64 n83] ∧
        (decide ((↑k12 : Int) ≥ n83) = false →
        Ob (a1 ≠ none) ∧
        Ob (a1 ≠ none) ∧
        ∃ a84,
        Reads H61 (fldA a1 12) [Value.pointer a84] ∧
        Triple Proofs.Try.prog 27 #[Value.pointer a84] H61 fun v85 H86 =>
        ∃ b87,
        v85 = Value.bool b87 ∧
        (b87 = true →
        Ob (a1 ≠ none) ∧
        Ob (a1 ≠ none) ∧
        Ob (fldA a1 0 ≠ none) ∧
        ∃ n88,
        Reads H86 (fldA (fldA a1 0) 3) [Value.int IntKind.i64 n88] ∧
        Triple Proofs.Try.prog 24
        #[Value.pointer a1, Value.bool (decide ((↑k12 : Int) ≥ n88))] H86 fun v89 H90 =>
        ∃ a91 k92 k93, v89 = Value.slice a91 k92 k93 ∧ Q (Value.slice a91 k92 k93) H90) ∧
        (b87 = false → Q (Value.slice none 0 0) H86)) ∧
        (decide ((↑k12 : Int) ≥ n83) = !false →
        Ob (a1 ≠ none) ∧
        Ob (a1 ≠ none) ∧
        Ob (fldA a1 0 ≠ none) ∧
        ∃ n94,
        Reads H61 (fldA (fldA a1 0) 3) [Value.int IntKind.i64 n94] ∧
        Triple Proofs.Try.prog 24 #[Value.pointer a1, Value.bool (decide ((↑k12 : Int) ≥ n94))] H61
        fun v95 H96 => ∃ a97 k98 k99, v95 = Value.slice a97 k98 k99 ∧ Q (Value.slice a97 k98 k99) H96)))) :
    Triple Go.Proofs.Try.prog 70 ([Value.pointer a1]).toArray H Q :=
  Triple.of_vc agFixed.cx (by kernel_rfl) h

theorem agTakes.vc (a1 : Option Addr) (n2 : Int) (n3 : Int) (n4 : Int) (n5 : Int) (s6 : ByteArray) (n7 : Int) (n8 : Int) (n9 : Int) (n10 : Int) (n11 : Int) (a12 : Option Addr) (k13 : Nat) (k14 : Nat) (a15 : Option Addr) (k16 : Nat) (k17 : Nat) (a18 : Option Addr) (k19 : Nat) (k20 : Nat) (H : PHeap) (Q : Value → PHeap → Prop)
    (h : ∃ H21,
  Vx.Sub H21 H ∧
    Ob (a1 ≠ none) ∧
      Ob (a1 ≠ none) ∧
        ∃ n22,
        Reads H21 (fldA a1 6) [Value.int IntKind.i64 n22] ∧
        ((n5 != n22) = false →
        Ob (a1 ≠ none) ∧
        Ob (a1 ≠ none) ∧
        ∃ s23,
        Reads H21 (fldA a1 7) [Value.string s23] ∧
        ((!eqS s6 s23) = true → Q (Value.bool false) H) ∧
        ((!eqS s6 s23) = false →
        Ob (a1 ≠ none) ∧
        Ob (a1 ≠ none) ∧
        Ob (fldA a1 14 ≠ none) ∧
        ∃ b24 n25 n26 n27,
        Reads H (fldA (fldA a1 14) 2) [Value.bool b24, Value.int IntKind.i64 n25, Value.int IntKind.i64 n26, Value.int IntKind.i64 n27] ∧
        Ob (a1 ≠ none) ∧
        Ob (a1 ≠ none) ∧
        Ob (fldA a1 14 ≠ none) ∧
        ∃ b28,
        Reads H (fldA (fldA a1 14) 1) [Value.bool b28] ∧
        ((!b28) = true → Q (Value.bool (n2 == 14)) H) ∧
        ((!b28) = false →
        ((n2 == 16) = true →
        ∃ H29,
        Vx.Sub H29 H ∧
        ((n11 == 4) = true →
        Ob (a1 ≠ none) ∧ Ob (a1 ≠ none) ∧ ∃ n30, Reads H29 (fldA a1 11) [Value.int IntKind.i64 n30] ∧ Q (Value.bool (n9 == n30)) H) ∧
        ((n11 == 4) = !true → Q (Value.bool false) H)) ∧
        ((n2 == 16) = false →
        ∃ H31,
        Vx.Sub H31 H ∧
        ((n2 != 17) = false →
        Ob (a1 ≠ none) ∧
        Ob (a1 ≠ none) ∧
        ∃ n32,
        Reads H31 (fldA a1 11) [Value.int IntKind.i64 n32] ∧
        ((n9 != n32) = true → Q (Value.bool false) H) ∧
        ((n9 != n32) = false →
        ((!b24) = true → Q (Value.bool (n11 == 4)) H) ∧
        ((!b24) = false →
        Q
        (Value.bool
        (bif n11 == 2 then bif n7 == n25 then n8 == n26 else false
        else bif n11 == 3 then bif n7 == n25 then n8 == n26 else false else false))
        H))) ∧
        ((n2 != 17) = !false → Q (Value.bool false) H))))) ∧
        ((n5 != n22) = !false → Q (Value.bool false) H)) :
    Triple Go.Proofs.Try.prog 25 ([Value.pointer a1,
  Value.agg
    #[Value.int IntKind.i64 n2, Value.int IntKind.i64 n3, Value.int IntKind.i64 n4, Value.int IntKind.i64 n5, Value.string s6, Value.int IntKind.i64 n7, Value.int IntKind.i64 n8,
      Value.int IntKind.i64 n9, Value.int IntKind.i64 n10, Value.int IntKind.i64 n11, Value.slice a12 k13 k14, Value.slice a15 k16 k17, Value.slice a18 k19 k20]]).toArray H Q :=
  Triple.of_vc agTakes.cx (by kernel_rfl) h

theorem agTake.vc (a1 : Option Addr) (n2 : Int) (n3 : Int) (n4 : Int) (n5 : Int) (s6 : ByteArray) (n7 : Int) (n8 : Int) (n9 : Int) (n10 : Int) (n11 : Int) (a12 : Option Addr) (k13 : Nat) (k14 : Nat) (a15 : Option Addr) (k16 : Nat) (k17 : Nat) (a18 : Option Addr) (k19 : Nat) (k20 : Nat) (H : PHeap) (Q : Value → PHeap → Prop)
    (h : ∃ H21,
  Vx.Sub H21 H ∧
    (a1.isNone = false →
        Ob (a1 ≠ none) ∧
        Ob (a1 ≠ none) ∧
        ∃ b22,
        Reads H21 (fldA a1 10) [Value.bool b22] ∧
        (b22 = false →
        Triple Proofs.Try.prog 25
        #[Value.pointer a1,
        Value.agg
        #[Value.int IntKind.i64 n2, Value.int IntKind.i64 n3, Value.int IntKind.i64 n4, Value.int IntKind.i64 n5, Value.string s6, Value.int IntKind.i64 n7, Value.int IntKind.i64 n8,
        Value.int IntKind.i64 n9, Value.int IntKind.i64 n10, Value.int IntKind.i64 n11, Value.slice a12 k13 k14, Value.slice a15 k16 k17, Value.slice a18 k19 k20]]
        H fun v23 H24 =>
        ∃ b25,
        v23 = Value.bool b25 ∧
        Vx.Sub H21 H24 ∧
        ((!b25) = false →
        Ob (a1 ≠ none) ∧
        Ob (a1 ≠ none) ∧
        ∃ a26,
        Reads H21 (fldA a1 12) [Value.pointer a26] ∧
        Triple Proofs.Try.prog 26
        #[Value.pointer a26,
        Value.agg
        #[Value.int IntKind.i64 n2, Value.int IntKind.i64 n3, Value.int IntKind.i64 n4, Value.int IntKind.i64 n5, Value.string s6, Value.int IntKind.i64 n7,
        Value.int IntKind.i64 n8, Value.int IntKind.i64 n9, Value.int IntKind.i64 n10, Value.int IntKind.i64 n11, Value.slice a12 k13 k14,
        Value.slice a15 k16 k17, Value.slice a18 k19 k20]]
        H24 fun v27 H28 =>
        ∃ b29,
        v27 = Value.bool b29 ∧
        Vx.Sub H21 H28 ∧
        ((!b29) = false →
        Ob (a1 ≠ none) ∧
        Ob (a1 ≠ none) ∧
        ∃ a30,
        Reads H21 (fldA a1 12) [Value.pointer a30] ∧
        Triple Proofs.Try.prog 27 #[Value.pointer a30] H28 fun v31 H32 =>
        ∃ b33,
        v31 = Value.bool b33 ∧
        ((!b33) = true → Q (Value.slice none 0 0) H32) ∧
        ((!b33) = false →
        Ob (a1 ≠ none) ∧
        Ob (a1 ≠ none) ∧
        ∃ v34,
        Reads H32 (fldA a1 13) [v34] ∧
        CallY Proofs.Try.prog v34 #[Value.pointer a1] H32 fun v35 H36 =>
        ∃ a37 k38 k39, v35 = Value.slice a37 k38 k39 ∧ Q (Value.slice a37 k38 k39) H36)) ∧
        ((!b29) = !false → Q (Value.slice none 0 0) H28)) ∧
        ((!b25) = !false → Q (Value.slice none 0 0) H24)) ∧
        (b22 = !false → Q (Value.slice none 0 0) H)) ∧
      (a1.isNone = !false → Q (Value.slice none 0 0) H)) :
    Triple Go.Proofs.Try.prog 11 ([Value.pointer a1,
  Value.agg
    #[Value.int IntKind.i64 n2, Value.int IntKind.i64 n3, Value.int IntKind.i64 n4, Value.int IntKind.i64 n5, Value.string s6, Value.int IntKind.i64 n7, Value.int IntKind.i64 n8,
      Value.int IntKind.i64 n9, Value.int IntKind.i64 n10, Value.int IntKind.i64 n11, Value.slice a12 k13 k14, Value.slice a15 k16 k17, Value.slice a18 k19 k20]]).toArray H Q :=
  Triple.of_vc agTake.cx (by kernel_rfl) h

theorem agTick.vc (a1 : Option Addr) (H : PHeap) (Q : Value → PHeap → Prop)
    (h : (a1.isNone = false →
    Ob (a1 ≠ none) ∧
      Ob (a1 ≠ none) ∧
        ∃ b2,
        Reads H (fldA a1 10) [Value.bool b2] ∧
        (b2 = true → Q (Value.slice none 0 0) H) ∧
        (b2 = false →
        Ob (a1 ≠ none) ∧
        Ob (a1 ≠ none) ∧
        ∃ a3,
        Reads H (fldA a1 12) [Value.pointer a3] ∧
        Ob (a1 ≠ none) ∧
        Ob (a1 ≠ none) ∧
        ∃ v4,
        Reads H (fldA a1 13) [v4] ∧
        CallY Proofs.Try.prog v4 #[Value.pointer a1] H fun v5 H6 =>
        ∃ a7 k8 k9,
        v5 = Value.slice a7 k8 k9 ∧
        Ob (a1 ≠ none) ∧
        Ob (a1 ≠ none) ∧
        ∃ b10,
        Reads H6 (fldA a1 10) [Value.bool b10] ∧
        (b10 = false →
        Ob (a1 ≠ none) ∧
        Ob (a1 ≠ none) ∧
        ∃ a11,
        Reads H6 (fldA a1 12) [Value.pointer a11] ∧
        LookV Proofs.Try.prog
        (binOp .neq 63 (Value.pointer a11) (Value.pointer a3))
        H6 fun v12 =>
        ∃ b13,
        v12 = Value.bool b13 ∧
        (b13 = true → Q (Value.slice a7 k8 k9) H6) ∧
        (b13 = false →
        Ob (a1 ≠ none) ∧
        Ob (a1 ≠ none) ∧
        ∃ a14,
        Reads H6 (fldA a1 12) [Value.pointer a14] ∧
        Triple Proofs.Try.prog 23 #[Value.pointer a14] H6 fun v15 H16 =>
        ∃ a17 k18 k19 b20,
        v15 = Value.tuple #[Value.slice a17 k18 k19, Value.bool b20] ∧
        (b20 = true →
        Triple Proofs.Try.prog 24 #[Value.pointer a1, Value.bool false] H16 fun v21 H22 =>
        ∃ a23 k24 k25, v21 = Value.slice a23 k24 k25 ∧ Q (Value.slice a23 k24 k25) H22) ∧
        (b20 = false → Q (Value.slice a17 k18 k19) H16))) ∧
        (b10 = !false → Q (Value.slice a7 k8 k9) H6))) ∧
  (a1.isNone = !false → Q (Value.slice none 0 0) H)) :
    Triple Go.Proofs.Try.prog 10 ([Value.pointer a1]).toArray H Q :=
  Triple.of_vc agTick.cx (by kernel_rfl) h

theorem agDone.vc (a1 : Option Addr) (H : PHeap) (Q : Value → PHeap → Prop)
    (h : (a1.isNone = false →
    Ob (a1 ≠ none) ∧
      Ob (a1 ≠ none) ∧
        ∃ b2,
        Reads H (fldA a1 10) [Value.bool b2] ∧
        ((!b2) = true →
        Q
        (Value.tuple
        #[Value.agg
        #[Value.bool false, Value.bool false, Value.bool false, Value.int IntKind.i64 0, Value.int IntKind.i64 0, Value.int IntKind.i64 0, Value.slice none 0 0, Value.slice none 0 0,
        Value.slice none 0 0],
        Value.bool false])
        H) ∧
        ((!b2) = false →
        Ob (a1 ≠ none) ∧
        Ob (a1 ≠ none) ∧
        ∃ b3 b4 b5 n6 n7 n8 a9 k10 k11 a12 k13 k14 a15 k16 k17,
        Reads H (fldA a1 14)
        [Value.bool b3, Value.bool b4, Value.bool b5, Value.int IntKind.i64 n6, Value.int IntKind.i64 n7, Value.int IntKind.i64 n8, Value.slice a9 k10 k11, Value.slice a12 k13 k14,
        Value.slice a15 k16 k17] ∧
        Q
        (Value.tuple
        #[Value.agg
        #[Value.bool b3, Value.bool b4, Value.bool b5, Value.int IntKind.i64 n6, Value.int IntKind.i64 n7, Value.int IntKind.i64 n8, Value.slice a9 k10 k11,
        Value.slice a12 k13 k14, Value.slice a15 k16 k17],
        Value.bool true])
        H)) ∧
  (a1.isNone = !false →
    Q
      (Value.tuple
        #[Value.agg
        #[Value.bool false, Value.bool false, Value.bool false, Value.int IntKind.i64 0, Value.int IntKind.i64 0, Value.int IntKind.i64 0, Value.slice none 0 0, Value.slice none 0 0,
        Value.slice none 0 0],
        Value.bool false])
      H)) :
    Triple Go.Proofs.Try.prog 12 ([Value.pointer a1]).toArray H Q :=
  Triple.of_vc agDone.cx (by kernel_rfl) h

end Go.Vc
