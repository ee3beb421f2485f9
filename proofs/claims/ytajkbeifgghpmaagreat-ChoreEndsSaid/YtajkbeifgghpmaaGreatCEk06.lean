/- What is to be shown of each function, in its normal form.  · The contracts of an agreement's object: what it holds, and what is asked of all. · The contracts of an agreement's object: the beginning, the end, and what is fixed. · The contracts of an agreement's object: how it begins, and how it judges what was asked. · The contracts of an agreement's object: how it judges what was fixed. -/
import Derived.Test.YtajkbeifgghpmaaGreatProg
import Derived.Test.YtajkbeifgghpmaaGreatCEk05
set_option linter.unusedVariables false
set_option maxRecDepth 100000
namespace Go.Vc
open Go.Vx Go
def agSettle.cx : Cx := ⟨[], [], [], []⟩
def agBegin.cx : Cx := ⟨[14], [], [], []⟩
def agAll.cx : Cx := ⟨[3], [(4, [5, 24], [])], [], []⟩
def agFixM.cx : Cx := ⟨[5], [], [], []⟩
def agEnd.cx : Cx := ⟨[], [], [], []⟩
def agAsked.cx : Cx := ⟨[], [], [], []⟩
def agFixed.cx : Cx := ⟨[], [(4, [3, 17], [])], [], []⟩
def agTakes.cx : Cx := ⟨[], [], [], []⟩
def agTake.cx : Cx := ⟨[], [], [], []⟩
def agTick.cx : Cx := ⟨[], [], [], []⟩
def agDone.cx : Cx := ⟨[], [], [], []⟩
theorem agSettle.vc (n1 : Int) (n2 : Int) (n3 : Int) (n4 : Int) (n5 : Int) (n6 : Int) (n7 : Int) (s8 : ByteArray) (b9 : Bool) (H : PHeap) (Q : Value → PHeap → Prop)
 (h : Triple Proofs.Tryz.prog 92
 #[Value.agg #[Value.int IntKind.i64 n1, Value.int IntKind.i64 n2, Value.int IntKind.i64 n3, Value.int IntKind.i64 n4, Value.int IntKind.i64 n5, Value.int IntKind.i64 n6], Value.int IntKind.i64 n7,
 Value.string s8]
 H fun v10 H11 =>
 ∃ a12,
 v10 = Value.pointer a12 ∧
 Ob (a12 ≠ none) ∧
 Ob (a12 ≠ none) ∧
 ∃ b13,
 Reads H11 (fldA a12 10) [Value.bool b13] ∧
 (b13 = true → Q (Value.tuple #[Value.pointer a12, Value.slice none 0 0]) H11) ∧
 (b13 = false →
 Ob (a12 ≠ none) ∧
 Ob (a12 ≠ none) ∧
 ∃ H14,
 Writes H11 H14 (fldA a12 8) [Value.bool b9] ∧
 Ob (a12 ≠ none) ∧
 Ob (a12 ≠ none) ∧
 ∃ H15,
 Writes H14 H15 (fldA a12 13) [Value.func (Fn.func 93) #[] #[]] ∧
 Ob (a12 ≠ none) ∧
 Ob (a12 ≠ none) ∧
 ∃ H16,
 Writes H15 H16 (fldA a12 11) [Value.int IntKind.i64 (IntKind.i64.wrap (2 * n7))] ∧
 Triple Proofs.Tryz.prog 94
 #[Value.pointer a12,
 Value.agg
 #[Value.int IntKind.i64 1, Value.int IntKind.i64 0, Value.int IntKind.i64 0, Value.int IntKind.i64 0, Value.string ({ data := #[] } : ByteArray),
 Value.int IntKind.i64 0, Value.int IntKind.i64 0, Value.int IntKind.i64 0, Value.int IntKind.i64 0, Value.int IntKind.i64 0, Value.slice none 0 0,
 Value.slice none 0 0, Value.slice none 0 0]]
 H16 fun v17 H18 => ∃ a19 k20 k21, v17 = Value.slice a19 k20 k21 ∧ Q (Value.tuple #[Value.pointer a12, Value.slice a19 k20 k21]) H18)) :
 Triple Go.Proofs.Tryz.prog 57 ([Value.agg #[Value.int IntKind.i64 n1, Value.int IntKind.i64 n2, Value.int IntKind.i64 n3, Value.int IntKind.i64 n4, Value.int IntKind.i64 n5, Value.int IntKind.i64 n6], Value.int IntKind.i64 n7,
 Value.string s8, Value.bool b9]).toArray H Q :=
 Triple.of_vc agSettle.cx (by kernel_rfl) h
theorem agBegin.vc (n1 : Int) (n2 : Int) (n3 : Int) (n4 : Int) (n5 : Int) (n6 : Int) (n7 : Int) (s8 : ByteArray) (H : PHeap) (Q : Value → PHeap → Prop)
 (h : ∃ H9,
 Vx.Sub H9 H ∧
 Triple Proofs.Tryz.prog 19
 #[Value.agg #[Value.int IntKind.i64 n1, Value.int IntKind.i64 n2, Value.int IntKind.i64 n3, Value.int IntKind.i64 n4, Value.int IntKind.i64 n5, Value.int IntKind.i64 n6]] H fun v10 H11 =>
 ∃ b12,
 v10 = Value.bool b12 ∧
 Vx.Sub H9 H11 ∧
 ∀ (k13 : Nat),
 H11 k13 = none →
 Q (Value.pointer (at0 k13))
 (H11.upd k13
 (Obj.cells
 #[Value.int IntKind.i64 n1, Value.int IntKind.i64 n2, Value.int IntKind.i64 n3, Value.int IntKind.i64 n4, Value.int IntKind.i64 n5, Value.int IntKind.i64 n6,
 Value.int IntKind.i64 n7, Value.string s8, Value.bool false, Value.bool false, Value.bool !b12, Value.int IntKind.i64 0, Value.pointer none, Value.nilFunc, Value.bool false,
 Value.bool false, Value.bool false, Value.int IntKind.i64 0, Value.int IntKind.i64 0, Value.int IntKind.i64 0, Value.slice none 0 0, Value.slice none 0 0, Value.slice none 0 0]
 115))) :
 Triple Go.Proofs.Tryz.prog 92 ([Value.agg #[Value.int IntKind.i64 n1, Value.int IntKind.i64 n2, Value.int IntKind.i64 n3, Value.int IntKind.i64 n4, Value.int IntKind.i64 n5, Value.int IntKind.i64 n6], Value.int IntKind.i64 n7,
 Value.string s8]).toArray H Q :=
 Triple.of_vc agBegin.cx (by kernel_rfl) h
theorem agAll.vc (a1 : Option Addr) (n2 : Int) (n3 : Int) (n4 : Int) (n5 : Int) (s6 : ByteArray) (n7 : Int) (n8 : Int) (n9 : Int) (n10 : Int) (n11 : Int) (a12 : Option Addr) (k13 : Nat) (k14 : Nat) (a15 : Option Addr) (k16 : Nat) (k17 : Nat) (a18 : Option Addr) (k19 : Nat) (k20 : Nat) (H : PHeap) (Q : Value → PHeap → Prop)
 (h : ∀ (k21 : Nat),
 H k21 = none →
 ∃ H22,
 Vx.Sub H22
 (H.upd k21
 (Obj.cells
 #[Value.int IntKind.i64 n2, Value.int IntKind.i64 n3, Value.int IntKind.i64 n4, Value.int IntKind.i64 n5, Value.string s6, Value.int IntKind.i64 n7, Value.int IntKind.i64 n8,
 Value.int IntKind.i64 n9, Value.int IntKind.i64 n10, Value.int IntKind.i64 n11, Value.slice a12 k13 k14, Value.slice a15 k16 k17, Value.slice a18 k19 k20]
 52)) ∧
 Ob (a1 ≠ none) ∧
 Ob (a1 ≠ none) ∧
 ∃ n23,
 Reads H22 (fldA a1 6) [Value.int IntKind.i64 n23] ∧
 Ob (a1 ≠ none) ∧
 Ob (a1 ≠ none) ∧
 ∃ s24,
 Reads H22 (fldA a1 7) [Value.string s24] ∧
 Ob (at0 k21 ≠ none) ∧
 ∃ H25,
 Writes
 (H.upd k21
 (Obj.cells
 #[Value.int IntKind.i64 n2, Value.int IntKind.i64 n3, Value.int IntKind.i64 n4, Value.int IntKind.i64 n5, Value.string s6, Value.int IntKind.i64 n7,
 Value.int IntKind.i64 n8, Value.int IntKind.i64 n9, Value.int IntKind.i64 n10, Value.int IntKind.i64 n11, Value.slice a12 k13 k14, Value.slice a15 k16 k17,
 Value.slice a18 k19 k20]
 52))
 H25 (fldA (at0 k21) 3) [Value.int IntKind.i64 n23] ∧
 Vx.Sub H22 H25 ∧
 Ob (at0 k21 ≠ none) ∧
 ∃ H26,
 Writes H25 H26 (fldA (at0 k21) 4) [Value.string s24] ∧
 Ob (a1 ≠ none) ∧
 Ob (a1 ≠ none) ∧
 ∃ n27 n28 n29 n30 n31 n32,
 Reads H26 (fldA a1 0)
 [Value.int IntKind.i64 n27, Value.int IntKind.i64 n28, Value.int IntKind.i64 n29, Value.int IntKind.i64 n30, Value.int IntKind.i64 n31,
 Value.int IntKind.i64 n32] ∧
 Triple Proofs.Tryz.prog 85
 #[Value.agg
 #[Value.int IntKind.i64 n27, Value.int IntKind.i64 n28, Value.int IntKind.i64 n29, Value.int IntKind.i64 n30, Value.int IntKind.i64 n31,
 Value.int IntKind.i64 n32]]
 H26 fun v33 H34 =>
 ∃ a35 k36 k37,
 v33 = Value.slice a35 k36 k37 ∧
 ∃ (R38 : Rl) (M39 : Mu),
 R38 [Value.slice none 0 0, Value.int IntKind.i64 0] H34 ∧
 ∀ (a40 : Option Addr) (k41 k42 : Nat) (n43 : Int) (H44 : PHeap),
 R38 [Value.slice a40 k41 k42, Value.int IntKind.i64 n43] H44 →
 (decide (n43 < (↑k36 : Int)) = true →
 Ob (a35 ≠ none ∧ 0 ≤ n43 ∧ n43 < (↑k36 : Int)) ∧
 ∃ n45,
 Reads H44 (elemA a35 n43 1) [Value.int IntKind.i64 n45] ∧
 Ob (at0 k21 ≠ none) ∧
 ∃ H46,
 Writes H44 H46 (fldA (at0 k21) 2) [Value.int IntKind.i64 n45] ∧
 ∃ n47 n48 n49 n50 s51 n52 n53 n54 n55 n56 a57 k58 k59 a60 k61 k62 a63 k64 k65,
 Reads H46 (at0 k21)
 [Value.int IntKind.i64 n47, Value.int IntKind.i64 n48, Value.int IntKind.i64 n49, Value.int IntKind.i64 n50,
 Value.string s51, Value.int IntKind.i64 n52, Value.int IntKind.i64 n53, Value.int IntKind.i64 n54,
 Value.int IntKind.i64 n55, Value.int IntKind.i64 n56, Value.slice a57 k58 k59, Value.slice a60 k61 k62,
 Value.slice a63 k64 k65] ∧
 ∀ (k66 : Nat),
 H46 k66 = none →
 EvV Proofs.Tryz.prog
 (Builtin.append_ #[28, 28] 28 #[Value.slice a40 k41 k42, Value.slice (at0 k66) 1 1])
 (H46.upd k66
 (Obj.cells
 #[Value.int IntKind.i64 n47, Value.int IntKind.i64 n48, Value.int IntKind.i64 n49, Value.int IntKind.i64 n50,
 Value.string s51, Value.int IntKind.i64 n52, Value.int IntKind.i64 n53, Value.int IntKind.i64 n54,
 Value.int IntKind.i64 n55, Value.int IntKind.i64 n56, Value.slice a57 k58 k59, Value.slice a60 k61 k62,
 Value.slice a63 k64 k65]
 52))
 fun v67 H68 =>
 ∃ a69 k70 k71,
 v67 = Value.slice a69 k70 k71 ∧
 R38 [Value.slice a69 k70 k71, Value.int IntKind.i64 (IntKind.i64.wrap (n43 + 1))] H68 ∧
 Less (M39 [Value.slice a69 k70 k71, Value.int IntKind.i64 (IntKind.i64.wrap (n43 + 1))] H68)
 (M39 [Value.slice a40 k41 k42, Value.int IntKind.i64 n43] H44)) ∧
 (decide (n43 < (↑k36 : Int)) = false →
 ∃ H72,
 Vx.Sub H72 H44 ∧
 Ob (a1 ≠ none) ∧
 Ob (a1 ≠ none) ∧
 Ob (fldA a1 0 ≠ none) ∧
 ∃ n73,
 Reads H72 (fldA (fldA a1 0) 5) [Value.int IntKind.i64 n73] ∧
 Ob (a1 ≠ none) ∧
 Ob (a1 ≠ none) ∧
 ∃ n74 n75 n76 n77 n78 n79,
 Reads H72 (fldA a1 0)
 [Value.int IntKind.i64 n74, Value.int IntKind.i64 n75, Value.int IntKind.i64 n76, Value.int IntKind.i64 n77,
 Value.int IntKind.i64 n78, Value.int IntKind.i64 n79] ∧
 Triple Proofs.Tryz.prog 85
 #[Value.agg
 #[Value.int IntKind.i64 n74, Value.int IntKind.i64 n75, Value.int IntKind.i64 n76,
 Value.int IntKind.i64 n77, Value.int IntKind.i64 n78, Value.int IntKind.i64 n79]]
 H44 fun v80 H81 =>
 ∃ a82 k83 k84,
 v80 = Value.slice a82 k83 k84 ∧
 Vx.Sub H72 H81 ∧
 Triple Proofs.Tryz.prog 100 #[Value.int IntKind.i64 n73, Value.slice a40 k41 k42, Value.slice a82 k83 k84]
 H81 fun v85 H86 =>
 ∃ a87,
 v85 = Value.pointer a87 ∧
 Ob (a1 ≠ none) ∧
 Ob (a1 ≠ none) ∧
 ∃ H88, Writes H86 H88 (fldA a1 12) [Value.pointer a87] ∧ Q (Value.slice a40 k41 k42) H88)) :
 Triple Go.Proofs.Tryz.prog 94 ([Value.pointer a1,
 Value.agg
 #[Value.int IntKind.i64 n2, Value.int IntKind.i64 n3, Value.int IntKind.i64 n4, Value.int IntKind.i64 n5, Value.string s6, Value.int IntKind.i64 n7, Value.int IntKind.i64 n8,
 Value.int IntKind.i64 n9, Value.int IntKind.i64 n10, Value.int IntKind.i64 n11, Value.slice a12 k13 k14, Value.slice a15 k16 k17, Value.slice a18 k19 k20]]).toArray H Q :=
 Triple.of_vc agAll.cx (by kernel_rfl) h
theorem agFixM.vc (a1 : Option Addr) (b2 : Bool) (n3 : Int) (n4 : Int) (n5 : Int) (H : PHeap) (Q : Value → PHeap → Prop)
 (h : ∃ H6,
 Vx.Sub H6 H ∧
 Ob (a1 ≠ none) ∧
 Ob (a1 ≠ none) ∧
 Ob (fldA a1 14 ≠ none) ∧
 ∃ H7,
 Writes H H7 (fldA (fldA a1 14) 1) [Value.bool true] ∧
 Vx.Sub H6 H7 ∧
 Ob (a1 ≠ none) ∧
 Ob (a1 ≠ none) ∧
 Ob (fldA a1 14 ≠ none) ∧
 ∃ H8,
 Writes H7 H8 (fldA (fldA a1 14) 2) [Value.bool b2, Value.int IntKind.i64 n3, Value.int IntKind.i64 n4, Value.int IntKind.i64 n5] ∧
 Ob (a1 ≠ none) ∧
 Ob (a1 ≠ none) ∧
 ∃ H9,
 Writes H8 H9 (fldA a1 13) [Value.func (Fn.func 165) #[] #[]] ∧
 Ob (a1 ≠ none) ∧
 Ob (a1 ≠ none) ∧
 ∃ n10,
 Reads H9 (fldA a1 11) [Value.int IntKind.i64 n10] ∧
 ∀ (k11 : Nat),
 H9 k11 = none →
 ∃ H12,
 Writes
 (H9.upd k11
 (Obj.cells
 #[Value.int IntKind.i64 0, Value.int IntKind.i64 0, Value.int IntKind.i64 0, Value.int IntKind.i64 0, Value.string ({ data := #[] } : ByteArray),
 Value.int IntKind.i64 0, Value.int IntKind.i64 0, Value.int IntKind.i64 0, Value.int IntKind.i64 0, Value.int IntKind.i64 0,
 Value.slice none 0 0, Value.slice none 0 0, Value.slice none 0 0]
 52))
 H12 (at0 k11)
 [Value.int IntKind.i64 4, Value.int IntKind.i64 0, Value.int IntKind.i64 0, Value.int IntKind.i64 0, Value.string ({ data := #[] } : ByteArray),
 Value.int IntKind.i64 0, Value.int IntKind.i64 0, Value.int IntKind.i64 n10, Value.int IntKind.i64 0, Value.int IntKind.i64 0,
 Value.slice none 0 0, Value.slice none 0 0, Value.slice none 0 0] ∧
 (b2 = true →
 ∃ H13,
 Vx.Sub H13 H12 ∧
 Ob (at0 k11 ≠ none) ∧
 ∃ H14,
 Writes H12 H14 (fldA (at0 k11) 9) [Value.int IntKind.i64 1] ∧
 Vx.Sub H13 H14 ∧
 Ob (at0 k11 ≠ none) ∧
 ∃ H15,
 Writes H14 H15 (fldA (at0 k11) 5) [Value.int IntKind.i64 n3] ∧
 Vx.Sub H13 H15 ∧
 Ob (at0 k11 ≠ none) ∧
 ∃ H16,
 Writes H15 H16 (fldA (at0 k11) 6) [Value.int IntKind.i64 n4] ∧
 Vx.Sub H13 H16 ∧
 Ob (at0 k11 ≠ none) ∧
 ∃ H17,
 Writes H16 H17 (fldA (at0 k11) 8) [Value.int IntKind.i64 n5] ∧
 ∃ n18 n19 n20 n21 s22 n23 n24 n25 n26 n27 a28 k29 k30 a31 k32 k33 a34 k35 k36,
 Reads H17 (at0 k11)
 [Value.int IntKind.i64 n18, Value.int IntKind.i64 n19, Value.int IntKind.i64 n20,
 Value.int IntKind.i64 n21, Value.string s22, Value.int IntKind.i64 n23, Value.int IntKind.i64 n24,
 Value.int IntKind.i64 n25, Value.int IntKind.i64 n26, Value.int IntKind.i64 n27,
 Value.slice a28 k29 k30, Value.slice a31 k32 k33, Value.slice a34 k35 k36] ∧
 Triple Proofs.Tryz.prog 94
 #[Value.pointer a1,
 Value.agg
 #[Value.int IntKind.i64 n18, Value.int IntKind.i64 n19, Value.int IntKind.i64 n20,
 Value.int IntKind.i64 n21, Value.string s22, Value.int IntKind.i64 n23, Value.int IntKind.i64 n24,
 Value.int IntKind.i64 n25, Value.int IntKind.i64 n26, Value.int IntKind.i64 n27,
 Value.slice a28 k29 k30, Value.slice a31 k32 k33, Value.slice a34 k35 k36]]
 H17 fun v37 H38 => ∃ a39 k40 k41, v37 = Value.slice a39 k40 k41 ∧ Q (Value.slice a39 k40 k41) H38) ∧
 (b2 = false →
 ∃ n42 n43 n44 n45 s46 n47 n48 n49 n50 n51 a52 k53 k54 a55 k56 k57 a58 k59 k60,
 Reads H12 (at0 k11)
 [Value.int IntKind.i64 n42, Value.int IntKind.i64 n43, Value.int IntKind.i64 n44, Value.int IntKind.i64 n45, Value.string s46,
 Value.int IntKind.i64 n47, Value.int IntKind.i64 n48, Value.int IntKind.i64 n49, Value.int IntKind.i64 n50, Value.int IntKind.i64 n51,
 Value.slice a52 k53 k54, Value.slice a55 k56 k57, Value.slice a58 k59 k60] ∧
 Triple Proofs.Tryz.prog 94
 #[Value.pointer a1,
 Value.agg
 #[Value.int IntKind.i64 n42, Value.int IntKind.i64 n43, Value.int IntKind.i64 n44, Value.int IntKind.i64 n45, Value.string s46,
 Value.int IntKind.i64 n47, Value.int IntKind.i64 n48, Value.int IntKind.i64 n49, Value.int IntKind.i64 n50, Value.int IntKind.i64 n51,
 Value.slice a52 k53 k54, Value.slice a55 k56 k57, Value.slice a58 k59 k60]]
 H12 fun v61 H62 => ∃ a63 k64 k65, v61 = Value.slice a63 k64 k65 ∧ Q (Value.slice a63 k64 k65) H62)) :
 Triple Go.Proofs.Tryz.prog 136 ([Value.pointer a1, Value.agg #[Value.bool b2, Value.int IntKind.i64 n3, Value.int IntKind.i64 n4, Value.int IntKind.i64 n5]]).toArray H Q :=
 Triple.of_vc agFixM.cx (by kernel_rfl) h
theorem agEnd.vc (a1 : Option Addr) (b2 : Bool) (H : PHeap) (Q : Value → PHeap → Prop)
 (h : Ob (a1 ≠ none) ∧
 Ob (a1 ≠ none) ∧
 ∃ H3, Writes H H3 (fldA a1 10) [Value.bool true] ∧ Ob (a1 ≠ none) ∧ Ob (a1 ≠ none) ∧ Ob (fldA a1 14 ≠ none) ∧ ∃ H4, Writes H3 H4 (fldA (fldA a1 14) 0) [Value.bool b2] ∧ Q (Value.slice none 0 0) H4) :
 Triple Go.Proofs.Tryz.prog 69 ([Value.pointer a1, Value.bool b2]).toArray H Q :=
 Triple.of_vc agEnd.cx (by kernel_rfl) h
theorem agAsked.vc (a1 : Option Addr) (H : PHeap) (Q : Value → PHeap → Prop)
 (h : Ob (a1 ≠ none) ∧
 Ob (a1 ≠ none) ∧
 ∃ a2,
 Reads H (fldA a1 12) [Value.pointer a2] ∧
 Triple Proofs.Tryz.prog 86 #[Value.pointer a2] H fun v3 H4 =>
 ∃ a5 k6 k7,
 v3 = Value.slice a5 k6 k7 ∧
 Ob (a1 ≠ none) ∧
 Ob (a1 ≠ none) ∧
 ∃ n8 n9 n10 n11 n12 n13,
 Reads H4 (fldA a1 0)
 [Value.int IntKind.i64 n8, Value.int IntKind.i64 n9, Value.int IntKind.i64 n10, Value.int IntKind.i64 n11, Value.int IntKind.i64 n12, Value.int IntKind.i64 n13] ∧
 Triple Proofs.Tryz.prog 135
 #[Value.agg #[Value.int IntKind.i64 n8, Value.int IntKind.i64 n9, Value.int IntKind.i64 n10, Value.int IntKind.i64 n11, Value.int IntKind.i64 n12, Value.int IntKind.i64 n13],
 Value.slice a5 k6 k7]
 H4 fun v14 H15 =>
 ∃ b16 b17 b18 n19 n20 n21 n22 a23 k24 k25,
 v14 =
 Value.agg
 #[Value.bool b16, Value.bool b17, Value.bool b18, Value.int IntKind.i64 n19, Value.int IntKind.i64 n20, Value.int IntKind.i64 n21, Value.int IntKind.i64 n22,
 Value.slice a23 k24 k25] ∧
 ((!b16) = true →
 Ob (a1 ≠ none) ∧
 Ob (a1 ≠ none) ∧
 ∃ a26,
 Reads H15 (fldA a1 12) [Value.pointer a26] ∧
 Triple Proofs.Tryz.prog 45 #[Value.pointer a26] H15 fun v27 H28 =>
 ∃ b29,
 v27 = Value.bool b29 ∧
 (b29 = true →
 Triple Proofs.Tryz.prog 69 #[Value.pointer a1, Value.bool false] H28 fun v30 H31 =>
 ∃ a32 k33 k34, v30 = Value.slice a32 k33 k34 ∧ Q (Value.slice a32 k33 k34) H31) ∧
 (b29 = false →
 ((!b16) = true → Q (Value.slice none 0 0) H28) ∧
 ((!b16) = false →
 Ob (a1 ≠ none) ∧
 Ob (a1 ≠ none) ∧
 Ob (fldA a1 14 ≠ none) ∧
 ∃ H35,
 Writes H28 H35 (fldA (fldA a1 14) 8) [Value.slice a5 k6 k7] ∧
 (b17 = true →
 Ob (a1 ≠ none) ∧
 Ob (a1 ≠ none) ∧
 ∃ b36,
 Reads H35 (fldA a1 8) [Value.bool b36] ∧
 ((!b36) = true →
 ∃ H37,
 Vx.Sub H37 H35 ∧
 Ob (a1 ≠ none) ∧
 Ob (a1 ≠ none) ∧
 Ob (fldA a1 14 ≠ none) ∧
 ∃ H38,
 Writes H35 H38 (fldA (fldA a1 14) 2)
 [Value.bool b18, Value.int IntKind.i64 n19, Value.int IntKind.i64 n20, Value.int IntKind.i64 n21] ∧
 Vx.Sub H37 H38 ∧
 Ob (a1 ≠ none) ∧
 Ob (a1 ≠ none) ∧
 Ob (fldA a1 14 ≠ none) ∧
 ∃ H39,
 Writes H38 H39 (fldA (fldA a1 14) 6) [Value.slice a23 k24 k25] ∧
 Triple Proofs.Tryz.prog 69 #[Value.pointer a1, Value.bool true] H39 fun v40 H41 =>
 ∃ a42 k43 k44, v40 = Value.slice a42 k43 k44 ∧ Q (Value.slice a42 k43 k44) H41) ∧
 ((!b36) = false →
 Triple Proofs.Tryz.prog 136
 #[Value.pointer a1,
 Value.agg #[Value.bool b18, Value.int IntKind.i64 n19, Value.int IntKind.i64 n20, Value.int IntKind.i64 n21]]
 H35 fun v45 H46 => ∃ a47 k48 k49, v45 = Value.slice a47 k48 k49 ∧ Q (Value.slice a47 k48 k49) H46)) ∧
 (b17 = !true →
 Triple Proofs.Tryz.prog 136
 #[Value.pointer a1, Value.agg #[Value.bool b18, Value.int IntKind.i64 n19, Value.int IntKind.i64 n20, Value.int IntKind.i64 n21]]
 H35 fun v50 H51 => ∃ a52 k53 k54, v50 = Value.slice a52 k53 k54 ∧ Q (Value.slice a52 k53 k54) H51)))) ∧
 ((!b16) = !true →
 ((!b16) = true → Q (Value.slice none 0 0) H15) ∧
 ((!b16) = false →
 Ob (a1 ≠ none) ∧
 Ob (a1 ≠ none) ∧
 Ob (fldA a1 14 ≠ none) ∧
 ∃ H55,
 Writes H15 H55 (fldA (fldA a1 14) 8) [Value.slice a5 k6 k7] ∧
 (b17 = true →
 Ob (a1 ≠ none) ∧
 Ob (a1 ≠ none) ∧
 ∃ b56,
 Reads H55 (fldA a1 8) [Value.bool b56] ∧
 ((!b56) = true →
 ∃ H57,
 Vx.Sub H57 H55 ∧
 Ob (a1 ≠ none) ∧
 Ob (a1 ≠ none) ∧
 Ob (fldA a1 14 ≠ none) ∧
 ∃ H58,
 Writes H55 H58 (fldA (fldA a1 14) 2)
 [Value.bool b18, Value.int IntKind.i64 n19, Value.int IntKind.i64 n20, Value.int IntKind.i64 n21] ∧
 Vx.Sub H57 H58 ∧
 Ob (a1 ≠ none) ∧
 Ob (a1 ≠ none) ∧
 Ob (fldA a1 14 ≠ none) ∧
 ∃ H59,
 Writes H58 H59 (fldA (fldA a1 14) 6) [Value.slice a23 k24 k25] ∧
 Triple Proofs.Tryz.prog 69 #[Value.pointer a1, Value.bool true] H59 fun v60 H61 =>
 ∃ a62 k63 k64, v60 = Value.slice a62 k63 k64 ∧ Q (Value.slice a62 k63 k64) H61) ∧
 ((!b56) = false →
 Triple Proofs.Tryz.prog 136
 #[Value.pointer a1, Value.agg #[Value.bool b18, Value.int IntKind.i64 n19, Value.int IntKind.i64 n20, Value.int IntKind.i64 n21]] H55
 fun v65 H66 => ∃ a67 k68 k69, v65 = Value.slice a67 k68 k69 ∧ Q (Value.slice a67 k68 k69) H66)) ∧
 (b17 = !true →
 Triple Proofs.Tryz.prog 136
 #[Value.pointer a1, Value.agg #[Value.bool b18, Value.int IntKind.i64 n19, Value.int IntKind.i64 n20, Value.int IntKind.i64 n21]] H55 fun v70 H71 =>
 ∃ a72 k73 k74, v70 = Value.slice a72 k73 k74 ∧ Q (Value.slice a72 k73 k74) H71)))) :
 Triple Go.Proofs.Tryz.prog 93 ([Value.pointer a1]).toArray H Q :=
 Triple.of_vc agAsked.cx (by kernel_rfl) h
theorem agFixed.vc (a1 : Option Addr) (H : PHeap) (Q : Value → PHeap → Prop)
 (h : Ob (a1 ≠ none) ∧
 Ob (a1 ≠ none) ∧
 Ob (fldA a1 14 ≠ none) ∧
 ∃ H2,
 Writes H H2 (fldA (fldA a1 14) 7) [Value.slice none 0 0] ∧
 Ob (a1 ≠ none) ∧
 Ob (a1 ≠ none) ∧
 ∃ a3,
 Reads H2 (fldA a1 12) [Value.pointer a3] ∧
 Triple Proofs.Tryz.prog 86 #[Value.pointer a3] H2 fun v4 H5 =>
 ∃ a6 k7 k8,
 v4 = Value.slice a6 k7 k8 ∧
 ∃ (R9 : Rl) (M10 : Mu),
 R9 [Value.slice none 0 0, Value.int IntKind.i64 0] H5 ∧
 ∀ (a11 : Option Addr) (k12 k13 : Nat) (n14 : Int) (H15 : PHeap),
 R9 [Value.slice a11 k12 k13, Value.int IntKind.i64 n14] H15 →
 (decide (n14 < (↑k7 : Int)) = true →
 Ob (a6 ≠ none ∧ 0 ≤ n14 ∧ n14 < (↑k7 : Int)) ∧
 ∃ n16 n17 n18 n19 s20 n21 n22 n23 n24 n25 a26 k27 k28 a29 k30 k31 a32 k33 k34,
 Reads H15 (elemA a6 n14 13)
 [Value.int IntKind.i64 n16, Value.int IntKind.i64 n17, Value.int IntKind.i64 n18, Value.int IntKind.i64 n19, Value.string s20, Value.int IntKind.i64 n21,
 Value.int IntKind.i64 n22, Value.int IntKind.i64 n23, Value.int IntKind.i64 n24, Value.int IntKind.i64 n25, Value.slice a26 k27 k28,
 Value.slice a29 k30 k31, Value.slice a32 k33 k34] ∧
 ((n16 == 17) = true →
 ∀ (k35 : Nat),
 H15 k35 = none →
 EvV Proofs.Tryz.prog (Builtin.append_ #[28, 28] 28 #[Value.slice a11 k12 k13, Value.slice (at0 k35) 1 1])
 (H15.upd k35
 (Obj.cells
 #[Value.int IntKind.i64 n16, Value.int IntKind.i64 n17, Value.int IntKind.i64 n18, Value.int IntKind.i64 n19, Value.string s20,
 Value.int IntKind.i64 n21, Value.int IntKind.i64 n22, Value.int IntKind.i64 n23, Value.int IntKind.i64 n24, Value.int IntKind.i64 n25,
 Value.slice a26 k27 k28, Value.slice a29 k30 k31, Value.slice a32 k33 k34]
 52))
 fun v36 H37 =>
 ∃ a38 k39 k40,
 v36 = Value.slice a38 k39 k40 ∧
 ∃ H41,
 Vx.Sub H41 H37 ∧
 Ob (a1 ≠ none) ∧
 Ob (a1 ≠ none) ∧
 Ob (fldA a1 14 ≠ none) ∧
 ∃ a42 k43 k44,
 Reads H41 (fldA (fldA a1 14) 7) [Value.slice a42 k43 k44] ∧
 ∀ (k45 : Nat),
 H37 k45 = none →
 Vx.Sub H41 (H37.upd k45 (Obj.cells #[Value.int IntKind.i64 n17] 3)) ∧
 EvV Proofs.Tryz.prog
 (Builtin.append_ #[42, 42] 42 #[Value.slice a42 k43 k44, Value.slice (at0 k45) 1 1])
 (H37.upd k45 (Obj.cells #[Value.int IntKind.i64 n17] 3)) fun v46 H47 =>
 ∃ a48 k49 k50,
 v46 = Value.slice a48 k49 k50 ∧
 Ob (a1 ≠ none) ∧
 Ob (a1 ≠ none) ∧
 Ob (fldA a1 14 ≠ none) ∧
 ∃ H51,
 Writes H47 H51 (fldA (fldA a1 14) 7) [Value.slice a48 k49 k50] ∧
 R9 [Value.slice a38 k39 k40, Value.int IntKind.i64 (IntKind.i64.wrap (n14 + 1))] H51 ∧
 Less (M10 [Value.slice a38 k39 k40, Value.int IntKind.i64 (IntKind.i64.wrap (n14 + 1))] H51)
 (M10 [Value.slice a11 k12 k13, Value.int IntKind.i64 n14] H15)) ∧
 ((n16 == 17) = false →
 R9 [Value.slice a11 k12 k13, Value.int IntKind.i64 (IntKind.i64.wrap (n14 + 1))] H15 ∧
 Less (M10 [Value.slice a11 k12 k13, Value.int IntKind.i64 (IntKind.i64.wrap (n14 + 1))] H15)
 (M10 [Value.slice a11 k12 k13, Value.int IntKind.i64 n14] H15))) ∧
 (decide (n14 < (↑k7 : Int)) = false →
 Ob (a1 ≠ none) ∧
 Ob (a1 ≠ none) ∧
 Ob (fldA a1 14 ≠ none) ∧
 ∃ b52 n53 n54 n55,
 Reads H15 (fldA (fldA a1 14) 2) [Value.bool b52, Value.int IntKind.i64 n53, Value.int IntKind.i64 n54, Value.int IntKind.i64 n55] ∧
 Triple Proofs.Tryz.prog 164
 #[Value.slice a11 k12 k13, Value.agg #[Value.bool b52, Value.int IntKind.i64 n53, Value.int IntKind.i64 n54, Value.int IntKind.i64 n55]] H15
 fun v56 H57 =>
 ∃ a58 k59 k60,
 v56 = Value.slice a58 k59 k60 ∧
 Ob (a1 ≠ none) ∧
 Ob (a1 ≠ none) ∧
 Ob (fldA a1 14 ≠ none) ∧
 ∃ H61,
 Writes H57 H61 (fldA (fldA a1 14) 6) [Value.slice a58 k59 k60] ∧
 Ob (a1 ≠ none) ∧
 Ob (a1 ≠ none) ∧
 ∃ b62,
 Reads H61 (fldA a1 9) [Value.bool b62] ∧
 (b62 = true →
 Ob (a1 ≠ none) ∧
 Ob (a1 ≠ none) ∧
 Ob (fldA a1 14 ≠ none) ∧
 ∃ a63 k64 k65,
 Reads H61 (fldA (fldA a1 14) 6) [Value.slice a63 k64 k65] ∧
 Ob (a1 ≠ none) ∧
 Ob (a1 ≠ none) ∧
 Ob (fldA a1 0 ≠ none) ∧
 ∃ n66,
 Reads H61 (fldA (fldA a1 0) 3) [Value.int IntKind.i64 n66] ∧
 (decide ((↑k64 : Int) ≥ n66) = false →
 Ob (a1 ≠ none) ∧
 Ob (a1 ≠ none) ∧
 ∃ a67,
 Reads H61 (fldA a1 12) [Value.pointer a67] ∧
 Triple Proofs.Tryz.prog 45 #[Value.pointer a67] H61 fun v68 H69 =>
 ∃ b70,
 v68 = Value.bool b70 ∧
 (b70 = true →
 Ob (a1 ≠ none) ∧
 Ob (a1 ≠ none) ∧
 Ob (fldA a1 0 ≠ none) ∧
 ∃ n71,
 Reads H69 (fldA (fldA a1 0) 3) [Value.int IntKind.i64 n71] ∧
 Triple Proofs.Tryz.prog 69
 #[Value.pointer a1, Value.bool (decide ((↑k64 : Int) ≥ n71))] H69
 fun v72 H73 =>
 ∃ a74 k75 k76,
 v72 = Value.slice a74 k75 k76 ∧ Q (Value.slice a74 k75 k76) H73) ∧
 (b70 = false → Q (Value.slice none 0 0) H69)) ∧
 (decide ((↑k64 : Int) ≥ n66) = !false →
 Ob (a1 ≠ none) ∧
 Ob (a1 ≠ none) ∧
 Ob (fldA a1 0 ≠ none) ∧
 ∃ n77,
 Reads H61 (fldA (fldA a1 0) 3) [Value.int IntKind.i64 n77] ∧
 Triple Proofs.Tryz.prog 69 #[Value.pointer a1, Value.bool (decide ((↑k64 : Int) ≥ n77))] H61
 fun v78 H79 =>
 ∃ a80 k81 k82, v78 = Value.slice a80 k81 k82 ∧ Q (Value.slice a80 k81 k82) H79)) ∧
 (b62 = false →
 Ob (a1 ≠ none) ∧
 Ob (a1 ≠ none) ∧
 Ob (fldA a1 0 ≠ none) ∧
 ∃ n83,
 Reads H61 (fldA (fldA a1 0) 3) [Value.int IntKind.i64 n83] ∧
 (decide ((↑k12 : Int) ≥ n83) = false →
 Ob (a1 ≠ none) ∧
 Ob (a1 ≠ none) ∧
 ∃ a84,
 Reads H61 (fldA a1 12) [Value.pointer a84] ∧
 Triple Proofs.Tryz.prog 45 #[Value.pointer a84] H61 fun v85 H86 =>
 ∃ b87,
 v85 = Value.bool b87 ∧
 (b87 = true →
 Ob (a1 ≠ none) ∧
 Ob (a1 ≠ none) ∧
 Ob (fldA a1 0 ≠ none) ∧
 ∃ n88,
 Reads H86 (fldA (fldA a1 0) 3) [Value.int IntKind.i64 n88] ∧
 Triple Proofs.Tryz.prog 69
 #[Value.pointer a1, Value.bool (decide ((↑k12 : Int) ≥ n88))] H86 fun v89 H90 =>
 ∃ a91 k92 k93, v89 = Value.slice a91 k92 k93 ∧ Q (Value.slice a91 k92 k93) H90) ∧
 (b87 = false → Q (Value.slice none 0 0) H86)) ∧
 (decide ((↑k12 : Int) ≥ n83) = !false →
 Ob (a1 ≠ none) ∧
 Ob (a1 ≠ none) ∧
 Ob (fldA a1 0 ≠ none) ∧
 ∃ n94,
 Reads H61 (fldA (fldA a1 0) 3) [Value.int IntKind.i64 n94] ∧
 Triple Proofs.Tryz.prog 69 #[Value.pointer a1, Value.bool (decide ((↑k12 : Int) ≥ n94))] H61
 fun v95 H96 => ∃ a97 k98 k99, v95 = Value.slice a97 k98 k99 ∧ Q (Value.slice a97 k98 k99) H96)))) :
 Triple Go.Proofs.Tryz.prog 165 ([Value.pointer a1]).toArray H Q :=
 Triple.of_vc agFixed.cx (by kernel_rfl) h
theorem agTakes.vc (a1 : Option Addr) (n2 : Int) (n3 : Int) (n4 : Int) (n5 : Int) (s6 : ByteArray) (n7 : Int) (n8 : Int) (n9 : Int) (n10 : Int) (n11 : Int) (a12 : Option Addr) (k13 : Nat) (k14 : Nat) (a15 : Option Addr) (k16 : Nat) (k17 : Nat) (a18 : Option Addr) (k19 : Nat) (k20 : Nat) (H : PHeap) (Q : Value → PHeap → Prop)
 (h : ∃ H21,
 Vx.Sub H21 H ∧
 Ob (a1 ≠ none) ∧
 Ob (a1 ≠ none) ∧
 ∃ n22,
 Reads H21 (fldA a1 6) [Value.int IntKind.i64 n22] ∧
 ((n5 != n22) = false →
 Ob (a1 ≠ none) ∧
 Ob (a1 ≠ none) ∧
 ∃ s23,
 Reads H21 (fldA a1 7) [Value.string s23] ∧
 ((!eqS s6 s23) = true → Q (Value.bool false) H) ∧
 ((!eqS s6 s23) = false →
 Ob (a1 ≠ none) ∧
 Ob (a1 ≠ none) ∧
 Ob (fldA a1 14 ≠ none) ∧
 ∃ b24 n25 n26 n27,
 Reads H (fldA (fldA a1 14) 2) [Value.bool b24, Value.int IntKind.i64 n25, Value.int IntKind.i64 n26, Value.int IntKind.i64 n27] ∧
 Ob (a1 ≠ none) ∧
 Ob (a1 ≠ none) ∧
 Ob (fldA a1 14 ≠ none) ∧
 ∃ b28,
 Reads H (fldA (fldA a1 14) 1) [Value.bool b28] ∧
 ((!b28) = true → Q (Value.bool (n2 == 14)) H) ∧
 ((!b28) = false →
 ((n2 == 16) = true →
 ∃ H29,
 Vx.Sub H29 H ∧
 ((n11 == 4) = true →
 Ob (a1 ≠ none) ∧ Ob (a1 ≠ none) ∧ ∃ n30, Reads H29 (fldA a1 11) [Value.int IntKind.i64 n30] ∧ Q (Value.bool (n9 == n30)) H) ∧
 ((n11 == 4) = !true → Q (Value.bool false) H)) ∧
 ((n2 == 16) = false →
 ∃ H31,
 Vx.Sub H31 H ∧
 ((n2 != 17) = false →
 Ob (a1 ≠ none) ∧
 Ob (a1 ≠ none) ∧
 ∃ n32,
 Reads H31 (fldA a1 11) [Value.int IntKind.i64 n32] ∧
 ((n9 != n32) = true → Q (Value.bool false) H) ∧
 ((n9 != n32) = false →
 ((!b24) = true → Q (Value.bool (n11 == 4)) H) ∧
 ((!b24) = false →
 Q
 (Value.bool
 (bif n11 == 2 then bif n7 == n25 then n8 == n26 else false
 else bif n11 == 3 then bif n7 == n25 then n8 == n26 else false else false))
 H))) ∧
 ((n2 != 17) = !false → Q (Value.bool false) H))))) ∧
 ((n5 != n22) = !false → Q (Value.bool false) H)) :
 Triple Go.Proofs.Tryz.prog 80 ([Value.pointer a1,
 Value.agg
 #[Value.int IntKind.i64 n2, Value.int IntKind.i64 n3, Value.int IntKind.i64 n4, Value.int IntKind.i64 n5, Value.string s6, Value.int IntKind.i64 n7, Value.int IntKind.i64 n8,
 Value.int IntKind.i64 n9, Value.int IntKind.i64 n10, Value.int IntKind.i64 n11, Value.slice a12 k13 k14, Value.slice a15 k16 k17, Value.slice a18 k19 k20]]).toArray H Q :=
 Triple.of_vc agTakes.cx (by kernel_rfl) h
theorem agTake.vc (a1 : Option Addr) (n2 : Int) (n3 : Int) (n4 : Int) (n5 : Int) (s6 : ByteArray) (n7 : Int) (n8 : Int) (n9 : Int) (n10 : Int) (n11 : Int) (a12 : Option Addr) (k13 : Nat) (k14 : Nat) (a15 : Option Addr) (k16 : Nat) (k17 : Nat) (a18 : Option Addr) (k19 : Nat) (k20 : Nat) (H : PHeap) (Q : Value → PHeap → Prop)
 (h : ∃ H21,
 Vx.Sub H21 H ∧
 (a1.isNone = false →
 Ob (a1 ≠ none) ∧
 Ob (a1 ≠ none) ∧
 ∃ b22,
 Reads H21 (fldA a1 10) [Value.bool b22] ∧
 (b22 = false →
 Triple Proofs.Tryz.prog 80
 #[Value.pointer a1,
 Value.agg
 #[Value.int IntKind.i64 n2, Value.int IntKind.i64 n3, Value.int IntKind.i64 n4, Value.int IntKind.i64 n5, Value.string s6, Value.int IntKind.i64 n7, Value.int IntKind.i64 n8,
 Value.int IntKind.i64 n9, Value.int IntKind.i64 n10, Value.int IntKind.i64 n11, Value.slice a12 k13 k14, Value.slice a15 k16 k17, Value.slice a18 k19 k20]]
 H fun v23 H24 =>
 ∃ b25,
 v23 = Value.bool b25 ∧
 Vx.Sub H21 H24 ∧
 ((!b25) = false →
 Ob (a1 ≠ none) ∧
 Ob (a1 ≠ none) ∧
 ∃ a26,
 Reads H21 (fldA a1 12) [Value.pointer a26] ∧
 Triple Proofs.Tryz.prog 44
 #[Value.pointer a26,
 Value.agg
 #[Value.int IntKind.i64 n2, Value.int IntKind.i64 n3, Value.int IntKind.i64 n4, Value.int IntKind.i64 n5, Value.string s6, Value.int IntKind.i64 n7,
 Value.int IntKind.i64 n8, Value.int IntKind.i64 n9, Value.int IntKind.i64 n10, Value.int IntKind.i64 n11, Value.slice a12 k13 k14,
 Value.slice a15 k16 k17, Value.slice a18 k19 k20]]
 H24 fun v27 H28 =>
 ∃ b29,
 v27 = Value.bool b29 ∧
 Vx.Sub H21 H28 ∧
 ((!b29) = false →
 Ob (a1 ≠ none) ∧
 Ob (a1 ≠ none) ∧
 ∃ a30,
 Reads H21 (fldA a1 12) [Value.pointer a30] ∧
 Triple Proofs.Tryz.prog 45 #[Value.pointer a30] H28 fun v31 H32 =>
 ∃ b33,
 v31 = Value.bool b33 ∧
 ((!b33) = true → Q (Value.slice none 0 0) H32) ∧
 ((!b33) = false →
 Ob (a1 ≠ none) ∧
 Ob (a1 ≠ none) ∧
 ∃ v34,
 Reads H32 (fldA a1 13) [v34] ∧
 CallY Proofs.Tryz.prog v34 #[Value.pointer a1] H32 fun v35 H36 =>
 ∃ a37 k38 k39, v35 = Value.slice a37 k38 k39 ∧ Q (Value.slice a37 k38 k39) H36)) ∧
 ((!b29) = !false → Q (Value.slice none 0 0) H28)) ∧
 ((!b25) = !false → Q (Value.slice none 0 0) H24)) ∧
 (b22 = !false → Q (Value.slice none 0 0) H)) ∧
 (a1.isNone = !false → Q (Value.slice none 0 0) H)) :
 Triple Go.Proofs.Tryz.prog 41 ([Value.pointer a1,
 Value.agg
 #[Value.int IntKind.i64 n2, Value.int IntKind.i64 n3, Value.int IntKind.i64 n4, Value.int IntKind.i64 n5, Value.string s6, Value.int IntKind.i64 n7, Value.int IntKind.i64 n8,
 Value.int IntKind.i64 n9, Value.int IntKind.i64 n10, Value.int IntKind.i64 n11, Value.slice a12 k13 k14, Value.slice a15 k16 k17, Value.slice a18 k19 k20]]).toArray H Q :=
 Triple.of_vc agTake.cx (by kernel_rfl) h
theorem agTick.vc (a1 : Option Addr) (H : PHeap) (Q : Value → PHeap → Prop)
 (h : (a1.isNone = false →
 Ob (a1 ≠ none) ∧
 Ob (a1 ≠ none) ∧
 ∃ b2,
 Reads H (fldA a1 10) [Value.bool b2] ∧
 (b2 = true → Q (Value.slice none 0 0) H) ∧
 (b2 = false →
 Ob (a1 ≠ none) ∧
 Ob (a1 ≠ none) ∧
 ∃ a3,
 Reads H (fldA a1 12) [Value.pointer a3] ∧
 Ob (a1 ≠ none) ∧
 Ob (a1 ≠ none) ∧
 ∃ v4,
 Reads H (fldA a1 13) [v4] ∧
 CallY Proofs.Tryz.prog v4 #[Value.pointer a1] H fun v5 H6 =>
 ∃ a7 k8 k9,
 v5 = Value.slice a7 k8 k9 ∧
 Ob (a1 ≠ none) ∧
 Ob (a1 ≠ none) ∧
 ∃ b10,
 Reads H6 (fldA a1 10) [Value.bool b10] ∧
 (b10 = false →
 Ob (a1 ≠ none) ∧
 Ob (a1 ≠ none) ∧
 ∃ a11,
 Reads H6 (fldA a1 12) [Value.pointer a11] ∧
 LookV Proofs.Tryz.prog
 (binOp .neq 66 (Value.pointer a11) (Value.pointer a3))
 H6 fun v12 =>
 ∃ b13,
 v12 = Value.bool b13 ∧
 (b13 = true → Q (Value.slice a7 k8 k9) H6) ∧
 (b13 = false →
 Ob (a1 ≠ none) ∧
 Ob (a1 ≠ none) ∧
 ∃ a14,
 Reads H6 (fldA a1 12) [Value.pointer a14] ∧
 Triple Proofs.Tryz.prog 34 #[Value.pointer a14] H6 fun v15 H16 =>
 ∃ a17 k18 k19 b20,
 v15 = Value.tuple #[Value.slice a17 k18 k19, Value.bool b20] ∧
 (b20 = true →
 Triple Proofs.Tryz.prog 69 #[Value.pointer a1, Value.bool false] H16 fun v21 H22 =>
 ∃ a23 k24 k25, v21 = Value.slice a23 k24 k25 ∧ Q (Value.slice a23 k24 k25) H22) ∧
 (b20 = false → Q (Value.slice a17 k18 k19) H16))) ∧
 (b10 = !false → Q (Value.slice a7 k8 k9) H6))) ∧
 (a1.isNone = !false → Q (Value.slice none 0 0) H)) :
 Triple Go.Proofs.Tryz.prog 33 ([Value.pointer a1]).toArray H Q :=
 Triple.of_vc agTick.cx (by kernel_rfl) h
theorem agDone.vc (a1 : Option Addr) (H : PHeap) (Q : Value → PHeap → Prop)
 (h : (a1.isNone = false →
 Ob (a1 ≠ none) ∧
 Ob (a1 ≠ none) ∧
 ∃ b2,
 Reads H (fldA a1 10) [Value.bool b2] ∧
 ((!b2) = true →
 Q
 (Value.tuple
 #[Value.agg
 #[Value.bool false, Value.bool false, Value.bool false, Value.int IntKind.i64 0, Value.int IntKind.i64 0, Value.int IntKind.i64 0, Value.slice none 0 0, Value.slice none 0 0,
 Value.slice none 0 0],
 Value.bool false])
 H) ∧
 ((!b2) = false →
 Ob (a1 ≠ none) ∧
 Ob (a1 ≠ none) ∧
 ∃ b3 b4 b5 n6 n7 n8 a9 k10 k11 a12 k13 k14 a15 k16 k17,
 Reads H (fldA a1 14)
 [Value.bool b3, Value.bool b4, Value.bool b5, Value.int IntKind.i64 n6, Value.int IntKind.i64 n7, Value.int IntKind.i64 n8, Value.slice a9 k10 k11, Value.slice a12 k13 k14,
 Value.slice a15 k16 k17] ∧
 Q
 (Value.tuple
 #[Value.agg
 #[Value.bool b3, Value.bool b4, Value.bool b5, Value.int IntKind.i64 n6, Value.int IntKind.i64 n7, Value.int IntKind.i64 n8, Value.slice a9 k10 k11,
 Value.slice a12 k13 k14, Value.slice a15 k16 k17],
 Value.bool true])
 H)) ∧
 (a1.isNone = !false →
 Q
 (Value.tuple
 #[Value.agg
 #[Value.bool false, Value.bool false, Value.bool false, Value.int IntKind.i64 0, Value.int IntKind.i64 0, Value.int IntKind.i64 0, Value.slice none 0 0, Value.slice none 0 0,
 Value.slice none 0 0],
 Value.bool false])
 H)) :
 Triple Go.Proofs.Tryz.prog 68 ([Value.pointer a1]).toArray H Q :=
 Triple.of_vc agDone.cx (by kernel_rfl) h
end Go.Vc
namespace Go.Agr
open Go.Vx Go.Vc Go.Proofs Go.Pln Go.Stl
open Go.Rnd (takesG insG froms againG RdS Both OkM AscG)
theorem rest_upd (H : PHeap) (k : Nat) (o : Obj) : rest (H.upd k o) [k] = rest H [k] := funext fun q => by
  by_cases h : q = k
  · rw [h, rest_none (by simp), rest_none (by simp)]
  · rw [rest_at (by simpa using h), rest_at (by simpa using h), Vx.upd_ne _ _ h]
/-- A call that is made without a variable leaves it. -/
theorem callR {P : Program} {f : FuncId} {args : Array Value} {H : PHeap} {k : Nat} {t : TypeId} {l : List Value} {Q : Value → PHeap → Prop} (h : Triple P f args (rest H [k]) Q) (hb : Bx H k t l) :
    Triple P f args H fun v H' => ∃ G, Q v G ∧ Sub G (rest H' [k]) ∧ Bx H' k t l :=
  (h.frame (rest_sub H [k])).mono fun _ _ ⟨G, h1, h2, h3⟩ => by
    obtain ⟨h4, h5⟩ := h3 k _ hb (rest_none (by simp))
    exact ⟨G, h1, rest_le h2 (by simpa using h5), h4⟩
def idsN (j : Nat) : List Int := (List.range j).map fun i : Nat => (i : Int) + 1
theorem idsN_succ (j : Nat) : idsN (j + 1) = idsN j ++ [(j : Int) + 1] := by simp [idsN, List.range_succ]
theorem idsN_len (j : Nat) : (idsN j).length = j := by simp [idsN]
abbrev GivesI (l : List Int) (H : PHeap) (v : Value) (H' : PHeap) : Prop := ∃ b n c, v = .slice b n c ∧ OwnL H' 3 iE 1 b n c l ∧ Sub H H' ∧ Off H b
theorem planAll1_ok {H : PHeap} {k : Nat} {p : Plan} (hp : p.ok = true) (hb : Bx H k 23 [vI p.n, vI p.t, vI p.l, vI p.w, vI p.s, vI p.r]) : Triple Tryz.prog 120 #[.pointer (at0 k)] H (GivesI (ids p) H) := by
  have pok := Plan.ok_iff.1 hp
  have h1 := pok.n1
  have h2 := pok.n2
  refine planAll1.vc (at0 k) H _ ⟨obP k, p.n, hb.fld rfl, fun t H' => match t with | [.slice b m q, .int _ i] => 0 ≤ i ∧ i ≤ p.n ∧ OwnL H' 3 iE 1 b m q (idsN i.toNat) ∧ Sub H H' ∧ Off H b | _ => False, fun t _ => match t with | [_, .int _ i] => (p.n - i).toNat | _ => 0, ⟨by omega, by omega, Owns.nil _ _ 1, Sub.refl _, Off.none _⟩, ?_⟩
  rintro b m q i H9 ⟨i0, i1, ho, hs, hoff⟩
  obtain ⟨i, rfl⟩ : ∃ j : Nat, i = j := ⟨i.toNat, by omega⟩
  rw [Int.toNat_natCast] at ho
  refine ⟨fun hi k10 hk10 => ?_, fun hi => ?_⟩
  · have hi' : (i : Int) < p.n := by simpa using hi
    have hml := (ho.rd (E := iE) (sz := 1) (by omega) Rnd.iLen).len
    rw [idsN_len] at hml
    rw [Rnd.wrapS (by omega) (by omega)]
    refine append_one Rnd.tI (E := iE) (x := (i : Int) + 1) hk10 Rnd.iLen ho rfl (Rnd.iOne _) (by simp [maxLen]; omega) (by omega) ?_
    intro b' q' H' how hf hfr _
    refine ⟨b', m + 1, q', rfl, ⟨by omega, by omega, ?_, hf.sub hs hoff, hfr.off hs hoff⟩, ⟨by simp only; omega⟩⟩
    rw [show ((i : Int) + 1).toNat = i + 1 by omega, idsN_succ]; exact how
  · have hi' : ¬ (i : Int) < p.n := by simpa using hi
    rw [show i = p.n.toNat by omega] at ho
    exact ⟨b, m, q, rfl, ho, hs, hoff⟩
theorem planAll_ok {H : PHeap} {p : Plan} (hp : p.ok = true) : Triple Tryz.prog 85 #[p.v] H (GivesI (ids p) H) := by
  refine planAll.vc p.n p.t p.l p.w p.s p.r H _ fun k7 hk7 => ?_
  have hs := Sub.upd (.cells #[vI p.n, vI p.t, vI p.l, vI p.w, vI p.s, vI p.r] 23 (0, 0)) hk7
  have hb := Bx.new H k7 23 [vI p.n, vI p.t, vI p.l, vI p.w, vI p.s, vI p.r]
  refine ⟨p.n, p.t, p.l, p.w, p.s, p.r, hb.reads, planOfL.vc p.n p.t p.l p.w p.s p.r _ _ _ ((right_ok p).use ⟨_, rfl, fun e => ?_, fun e => CallY.fn (by kernel_rfl) ((planAll1_ok hp hb).mono ?_)⟩)⟩
  · rw [hp] at e; cases e
  · rintro _ H' ⟨b, n, c, rfl, h1, h2, h3⟩
    exact ⟨_, _, _, rfl, _, _, _, rfl, b, n, c, rfl, h1, hs.trans h2, h3.sub hs⟩
/-- What lies in an agreement beside its state. -/
structure AV where
  r : Option Addr
  j : Value
  h : Option Addr
  hn : Nat
  hc : Nat
  a : Option Addr
  an : Nat
  ac : Nat
  s : Option Addr
  sn : Nat
  sc : Nat
abbrev cellsA (s : St) (x : AV) : List Value :=
  [vI s.p.n, vI s.p.t, vI s.p.l, vI s.p.w, vI s.p.s, vI s.p.r, vI s.ballot, .string s.name, .bool s.force, .bool s.live, .bool s.over, vI s.mark, .pointer x.r, x.j,
   .bool s.ok, .bool s.fixed, .bool s.value.pr, vI s.value.at_, vI s.value.ep, vI s.value.sz, .slice x.h x.hn x.hc, .slice x.a x.an x.ac, .slice x.s x.sn x.sc]
abbrev tAg : TypeId := 115
def toAll (b : Int) (nm : ByteArray) (m : Msg) (l : List Int) : List Msg := l.map fun i => (m.1, m.2.1, i, b, nm, m.2.2.2.2.2)
theorem toAll_snoc (b : Int) (nm : ByteArray) (m : Msg) (l : List Int) (i : Int) : toAll b nm m (l ++ [i]) = toAll b nm m l ++ [(m.1, m.2.1, i, b, nm, m.2.2.2.2.2)] := by simp [toAll]
theorem toAll_len (b : Int) (nm : ByteArray) (m : Msg) (l : List Int) : (toAll b nm m l).length = l.length := by simp [toAll]
theorem agAll_ok {H : PHeap} {k : Nat} {s : St} {x : AV} {m : Msg} (hp : s.p.ok = true) (hb : Bx H k tAg (cellsA s x)) :
    Triple Tryz.prog 94 #[.pointer (at0 k), vM m] H fun v H' => ∃ b n c F1 kr, v = .slice b n c ∧ RdL F1 mE 13 b n (askAll s.p s.ballot s.name m) ∧ Sub (rest H [k]) F1 ∧
      RdS F1 (rest H' [k]) kr (askAll s.p s.ballot s.name m) (ids s.p) [] (maxI s.p.r 0) ∧ Bx H' k tAg (cellsA s { x with r := at0 kr }) := by
  have pok := Plan.ok_iff.1 hp
  have pn1 := pok.n1
  have pn2 := pok.n2
  obtain ⟨y1, y2, y3, y4, y5, y6, y7, y8, y9, y10, ⟨ya, yb, yc, yl⟩, ⟨za, zb, zc, zl⟩, ⟨wa, wb, wc, wl⟩⟩ := m
  refine agAll.vc (at0 k) y1 y2 y3 y4 y5 y6 y7 y8 y9 y10 ya yb yc za zb zc wa wb wc H _ fun k21 hk21 => ?_
  let M : Int → Int → ByteArray → Msg := fun t b nm => (y1, y2, t, b, nm, y6, y7, y8, y9, y10, ⟨ya, yb, yc, yl⟩, ⟨za, zb, zc, zl⟩, ⟨wa, wb, wc, wl⟩)
  have b0 : Bx (H.upd k21 (.cells (mE (M y3 y4 y5)).toArray 52 (0, 0))) k21 52 (mE (M y3 y4 y5)) := Bx.new _ _ _ _
  have s0 : Sub H (H.upd k21 (.cells (mE (M y3 y4 y5)).toArray 52 (0, 0))) := Sub.upd _ hk21
  have w25 := b0.put (i := 3) (x := vI s.ballot) (by show 3 < 13; decide)
  have b25 : Bx ((H.upd k21 (.cells (mE (M y3 y4 y5)).toArray 52 (0, 0))).upd k21 (.cells (mE (M y3 s.ballot y5)).toArray 52 (0, 0))) k21 52 (mE (M y3 s.ballot y5)) := Bx.new _ _ _ _
  have s25 : Sub H ((H.upd k21 (.cells (mE (M y3 y4 y5)).toArray 52 (0, 0))).upd k21 (.cells (mE (M y3 s.ballot y5)).toArray 52 (0, 0))) := s0.wr hk21
  refine ⟨H, s0, obP k, obP k, _, hb.fld rfl, obP k, obP k, _, hb.fld rfl, obP k21, _, w25, s25, obP k21, ?_⟩
  generalize hH25 : (H.upd k21 (.cells (mE (M y3 y4 y5)).toArray 52 (0, 0))).upd k21 (.cells (mE (M y3 s.ballot y5)).toArray 52 (0, 0)) = H25 at b25 s25
  have w26 := b25.put (i := 4) (x := .string s.name) (by show 4 < 13; decide)
  have b26 : Bx (H25.upd k21 (.cells (mE (M y3 s.ballot s.name)).toArray 52 (0, 0))) k21 52 (mE (M y3 s.ballot s.name)) := Bx.new _ _ _ _
  have s26 : Sub H (H25.upd k21 (.cells (mE (M y3 s.ballot s.name)).toArray 52 (0, 0))) := s25.wr hk21
  refine ⟨H25.upd k21 (.cells (mE (M y3 s.ballot s.name)).toArray 52 (0, 0)), by rw [← hH25] at w26 ⊢; exact w26, obP k, obP k, ?_⟩
  generalize H25.upd k21 (.cells (mE (M y3 s.ballot s.name)).toArray 52 (0, 0)) = H26 at b26 s26 ⊢
  have rp : ∀ {G : PHeap}, Sub H G → Reads G (fldA (at0 k) 0) [vI s.p.n, vI s.p.t, vI s.p.l, vI s.p.w, vI s.p.s, vI s.p.r] := fun hs => (hb.sub hs).readsAt 0 fun j v hv => by
    match j, hv with
    | 0, hv => exact hv
    | 1, hv => exact hv
    | 2, hv => exact hv
    | 3, hv => exact hv
    | 4, hv => exact hv
    | 5, hv => exact hv
    | j + 6, hv => simp at hv
  refine ⟨_, _, _, _, _, _, rp s26, (planAll_ok hp).mono ?_⟩
  rintro _ H34 ⟨b35, n36, c37, rfl, o35, s34, f35⟩
  have hids := o35.rd (E := iE) (sz := 1) (by omega) Rnd.iLen
  have hidl := hids.len
  rw [ids_len] at hidl
  have hne35 := f35.ne b26
  have hidr := hids.rest (ks := [k21]) fun a ha => by simpa using hne35 a ha
  have b34 := b26.sub s34
  have sH : Sub H (rest H34 [k21]) := rest_le (s26.trans s34) (by simpa using hk21)
  refine ⟨_, _, _, rfl, fun t H' => match t with | [.slice b mm q, .int _ i] => 0 ≤ i ∧ i ≤ n36 ∧ Sub (rest H34 [k21]) H' ∧ (∃ t, Bx H' k21 52 (mE (M t s.ballot s.name))) ∧ OwnL H' 52 mE 13 b mm q (toAll s.ballot s.name (M y3 y4 y5) ((ids s.p).take i.toNat)) ∧ Off (rest H34 [k21]) b ∧ ∀ a, b = some a → a.block ≠ k21 | _ => False, fun t _ => match t with | [_, .int _ i] => (n36 - i).toNat | _ => 0, ⟨by omega, by omega, rest_sub _ _, ⟨y3, b34⟩, Owns.nil _ _ 13, Off.none _, fun a h => by cases h⟩, ?_⟩
  rintro b mm q i H44 ⟨i0, i1, s44, ⟨t, b44⟩, ho, hoff, hne⟩
  obtain ⟨i, rfl⟩ : ∃ j : Nat, i = j := ⟨i.toNat, by omega⟩
  rw [Int.toNat_natCast] at ho
  have hml := (ho.rd (E := mE) (sz := 13) (by omega) Rnd.mLen).len
  rw [toAll_len, List.length_take, ids_len] at hml
  refine ⟨fun hi => ?_, fun hi => ?_⟩
  · have hi' : i < n36 := by simpa using hi
    have hid44 := hidr.mono s44
    obtain ⟨z, hz, hzr⟩ := hid44.ex (i := (i : Int)) (by omega) (by omega)
    rw [Int.toNat_natCast] at hz
    have w46 := b44.put (i := 2) (x := vI z) (by show 2 < 13; decide)
    have b46 : Bx (H44.upd k21 (.cells (mE (M z s.ballot s.name)).toArray 52 (0, 0))) k21 52 (mE (M z s.ballot s.name)) := Bx.new _ _ _ _
    have s46 : Sub (rest H34 [k21]) (H44.upd k21 (.cells (mE (M z s.ballot s.name)).toArray 52 (0, 0))) := s44.wr (rest_none (by simp))
    have ho46 : OwnL (H44.upd k21 (.cells (mE (M z s.ballot s.name)).toArray 52 (0, 0))) 52 mE 13 b mm q (toAll s.ballot s.name (M y3 y4 y5) ((ids s.p).take i)) := ho.mono fun a o ha h => by rw [Vx.upd_ne _ _ (hne a ha)]; exact h
    rw [Rnd.wrapS (by omega) (by omega)]
    refine ⟨hid44.ob (by omega) (by omega), z, hzr, obP k21, _, w46, ?_⟩
    have hw46 : H44.upd k21 (.cells ((mE (M t s.ballot s.name)).set 2 (vI z)).toArray 52 (0, 0)) = H44.upd k21 (.cells (mE (M z s.ballot s.name)).toArray 52 (0, 0)) := rfl
    rw [hw46]
    generalize H44.upd k21 (.cells (mE (M z s.ballot s.name)).toArray 52 (0, 0)) = H46 at b46 s46 ho46 ⊢
    refine ⟨_, _, _, _, _, _, _, _, _, _, _, _, _, _, _, _, _, _, _, b46.reads, fun k66 hk66 => ?_⟩
    refine append_one Rnd.tM (E := mE) (x := M z s.ballot s.name) hk66 Rnd.mLen ho46 rfl (Rnd.mOne _) (by simp [maxLen]; omega) (by omega) ?_
    intro b' q' H' how hf hfr _
    refine ⟨b', mm + 1, q', rfl, ⟨by omega, by omega, hf.sub s46 hoff, ⟨z, hf.bx b46 hne⟩, ?_, hfr.off s46 hoff, hfr.ne b46 hne⟩, ⟨by simp only; omega⟩⟩
    rw [show ((i : Int) + 1).toNat = i + 1 by omega, List.take_add_one, hz]
    exact (toAll_snoc s.ballot s.name (M y3 y4 y5) _ z).symm ▸ how
  · have hi' : ¬ i < n36 := by simpa using hi
    rw [List.take_of_length_le (by rw [ids_len]; omega)] at ho
    have s44H := sH.trans s44
    refine ⟨H, s44H, obP k, obP k, obP k, _, hb.fld (i := 5) rfl, obP k, obP k, _, _, _, _, _, _, rp (Sub.refl _), (planAll_ok hp).mono ?_⟩
    rintro _ H81 ⟨b82, n83, c84, rfl, o82, s81, f82⟩
    have hb44 := hb.sub s44H
    have hb81 := hb44.sub s81
    have hne82 := f82.ne hb44
    have hbne : ∀ a, b = some a → a.block ≠ k := Off.ne hoff (o := .cells (cellsA s x).toArray tAg (0, 0)) (hb.sub sH)
    have r1 := ((ho.rd (E := mE) (sz := 13) (by omega) Rnd.mLen).mono s81).rest (ks := [k]) fun a ha => by simpa using hbne a ha
    have r2 := (o82.rd (E := iE) (sz := 1) (by omega) Rnd.iLen).rest (ks := [k]) fun a ha => by simpa using hne82 a ha
    have l2 := r2.len
    rw [ids_len] at l2
    refine ⟨_, _, _, rfl, s44H.trans s81, (callR (Rnd.new_ok (tries := s.p.r) r1 r2 (by omega) (by omega)) hb81).mono ?_⟩
    rintro _ H86 ⟨G, ⟨kr, F', rfl, hR, hF'⟩, hG, hb86⟩
    have w88 := hb86.put (i := 12) (x := .pointer (at0 kr)) (by show 12 < 23; decide)
    refine ⟨_, rfl, obP k, obP k, _, w88, b, mm, q, F', kr, rfl, ?_, ?_, ?_, Bx.new _ _ _ _⟩
    · exact r1.mono hF'
    · refine Sub.trans ?_ hF'
      exact rest_le ((rest_sub H [k]).trans (s44H.trans s81)) (by simpa using rest_none (by simp))
    · rw [rest_upd]; exact hR.mono hG
end Go.Agr
namespace Go.Agr
open Go.Vx Go.Vc Go.Proofs Go.Pln Go.Stl
open Go.Rnd (takesG insG froms againG RdS Both OkM AscG)
abbrev tRd : TypeId := 119
theorem rest_mono {H H' : PHeap} {ks : List Nat} (h : Sub H H') : Sub (rest H ks) (rest H' ks) := ⟨fun q o hq => by
  by_cases hm : q ∈ ks
  · rw [rest_none hm] at hq; cases hq
  · rw [rest_at hm] at hq ⊢; exact h.le _ _ hq⟩
/-- What is known beside a round grows. -/
theorem RdS_grow {F H H2 : PHeap} {k : Nat} {asks : List Msg} {wait : List Int} {got : List (Int × Msg)} {tries : Int} (h : RdS F H k asks wait got tries) (hs : Sub H H2) : RdS (grow F H H2) H2 k asks wait got tries := by
  obtain ⟨oa, n, c, ob, m, d, gb, h1, h2, h3, h4, h5, h6, h7, h8⟩ := h.row
  obtain ⟨es, c', g1, _⟩ := h4.out
  exact ⟨grow_sub h.sub hs, grow_off h1 h.off, oa, n, c, ob, m, d, gb, h1.sub hs, h2.mono (grow_le h.sub), h3.mono (grow_le h.sub), h4.mono fun o ho => hs.le _ _ ho, grow_off g1 h5, h6, h7, h8⟩
theorem rd_grow {α : Type} {F H H2 : PHeap} {E : α → List Value} {sz : Nat} {oa : Option Addr} {n : Nat} {l : List α} (h : RdL H2 E sz oa n l) (ho : Off H oa) : RdL (grow F H H2) E sz oa n l :=
  h.part fun a o ha hb => by rw [grow_at (ho a ha)]; exact hb
theorem RdS_bx {F H : PHeap} {k : Nat} {asks : List Msg} {wait : List Int} {got : List (Int × Msg)} {tries : Int} (h : RdS F H k asks wait got tries) : ∃ l, Bx H k tRd l := by
  obtain ⟨oa, n, c, ob, m, d, gb, h1, _⟩ := h.row
  exact ⟨_, h1⟩
structure SlA (F : PHeap) (s : St) (x : AV) : Prop where
  h : RdL F iE 1 x.h x.hn s.holders
  a : RdL F iE 1 x.a x.an s.acks
  s : RdL F mE 13 x.s x.sn s.said
theorem SlA.mono {F F' : PHeap} {s : St} {x : AV} (h : SlA F s x) (hs : Sub F F') : SlA F' s x := ⟨h.h.mono hs, h.a.mono hs, h.s.mono hs⟩
def jv (fixed : Bool) : Value := if fixed then .func (Fn.func 165) #[] #[] else .func (Fn.func 93) #[] #[]
structure Inv (F : PHeap) (s : St) : Prop where
  pok : s.p.ok = true
  wt : s.wait = ids s.p
  gin : ∀ m ∈ s.G, from_ m ∈ ids s.p
  asc : AscG s.G
  okG : ∀ m ∈ s.G, OkM F m
  okS : ∀ m ∈ s.said, OkM F m
theorem asc_len : ∀ (l : List Int) (lo hi : Int), lo ≤ hi → l.Pairwise (· < ·) → (∀ x ∈ l, lo < x ∧ x ≤ hi) → (l.length : Int) ≤ hi - lo
  | [], lo, hi, h, _, _ => by simp; omega
  | x :: l, lo, hi, h, hp, hx => by
    have h1 := hx x (by simp)
    rw [List.pairwise_cons] at hp
    have := asc_len l x hi h1.2 hp.2 fun y hy => ⟨hp.1 y hy, (hx y (by simp [hy])).2⟩
    rw [List.length_cons]
    omega
theorem ids_mem {p : Plan} {i : Int} (h : i ∈ ids p) : 0 < i ∧ i ≤ p.n := by
  obtain ⟨j, hj, rfl⟩ := List.mem_map.1 h
  rw [List.mem_range] at hj
  omega
theorem Inv.len {F : PHeap} {s : St} (h : Inv F s) : s.G.length ≤ 256 := by
  have pok := Plan.ok_iff.1 h.pok
  have := asc_len (froms s.G) 0 s.p.n (by have := pok.n1; omega) h.asc fun x hx => by
    obtain ⟨m, hm, rfl⟩ := List.mem_map.1 hx
    exact ids_mem (h.gin m hm)
  rw [List.length_map] at this
  have := pok.n2
  omega
structure AgK (F H : PHeap) (k kr : Nat) (s : St) : Prop where
  off : F k = none
  inv : Inv F s
  row : ∃ F1 got x, x.r = at0 kr ∧ x.j = jv s.fixed ∧ Sub F F1 ∧ RdS F1 (rest H [k]) kr s.asks s.wait got s.tries ∧ Both got s.G ∧ Bx H k tAg (cellsA s x) ∧ SlA F1 s x
abbrev AgS (F H : PHeap) (k : Nat) (s : St) : Prop := ∃ kr, AgK F H k kr s
theorem AgK.sub {F H : PHeap} {k kr : Nat} {s : St} (h : AgK F H k kr s) : Sub F H := by
  obtain ⟨_, _, F1, got, x, _, _, h1, h2, _⟩ := h
  exact h1.trans (h2.sub.trans (rest_sub _ _))
theorem AgK.mono {F H H' : PHeap} {k kr : Nat} {s : St} (h : AgK F H k kr s) (hs : Sub H H') : AgK F H' k kr s := by
  obtain ⟨h1, h2, F1, got, x, h3, h4, h5, h6, h7, h8, h9⟩ := h
  exact ⟨h1, h2, F1, got, x, h3, h4, h5, h6.mono (rest_mono hs), h7, h8.sub hs, h9⟩
/-- The round it had is known, and it is another one just if something begins to be fixed. -/
def Moved (s : St) (k0 : Nat) (t : St) (k1 : Nat) (H : PHeap) : Prop := (∃ l, Bx H k0 tRd l) ∧ (!decide (k1 = k0)) = (t.fixed != s.fixed)
/-- What a judgement leaves and says. -/
abbrev Judged (F : PHeap) (k kr : Nat) (s : St) (r : St × List Msg) (v : Value) (H' : PHeap) : Prop := ∃ b n c kr', v = .slice b n c ∧ RdL H' mE 13 b n r.2 ∧ AgK F H' k kr' r.1 ∧ Moved s kr r.1 kr' H' ∧ (s.over = false → r.1.over = true → v = .slice none 0 0)
theorem Moved.stay {F H : PHeap} {k kr : Nat} {s t : St} (h : AgK F H k kr t) (hf : t.fixed = s.fixed) : Moved s kr t kr H := by
  obtain ⟨_, _, F1, got, x, _, _, h1, h2, _⟩ := h
  obtain ⟨l, hl⟩ := RdS_bx h2
  exact ⟨⟨l, hl.sub (rest_sub _ _)⟩, by rw [hf]; simp⟩
theorem end_ok {F H : PHeap} {k kr : Nat} {s : St} {ok : Bool} (h : AgK F H k kr s) : Triple Tryz.prog 69 #[.pointer (at0 k), .bool ok] H fun v H' => v = .slice none 0 0 ∧ AgK F H' k kr (s.end_ ok) := by
  obtain ⟨h1, h2, F1, got, x, h3, h4, h5, h6, h7, h8, h9⟩ := h
  have w1 := h8.put (i := 10) (x := .bool true) (by show 10 < 23; decide)
  have b1 : Bx (H.upd k (.cells (cellsA { s with over := true } x).toArray tAg (0, 0))) k tAg (cellsA { s with over := true } x) := Bx.new _ _ _ _
  have w2 := b1.put (i := 14) (x := .bool ok) (by show 14 < 23; decide)
  have r1 : rest (H.upd k (.cells (cellsA { s with over := true } x).toArray tAg (0, 0))) [k] = rest H [k] := rest_upd _ _ _
  refine agEnd.vc (at0 k) ok H _ ⟨obP k, obP k, H.upd k (.cells (cellsA { s with over := true } x).toArray tAg (0, 0)), w1, obP k, obP k, ⟨by simp [at0, fldA]⟩, ?_⟩
  generalize H.upd k (.cells (cellsA { s with over := true } x).toArray tAg (0, 0)) = H1 at w2 b1 r1 ⊢
  refine ⟨H1.upd k (.cells (cellsA (s.end_ ok) x).toArray tAg (0, 0)), w2, rfl, h1, ⟨h2.pok, h2.wt, h2.gin, h2.asc, h2.okG, h2.okS⟩, F1, got, x, h3, h4, h5, ?_, h7, Bx.new _ _ _ _, ⟨h9.h, h9.a, h9.s⟩⟩
  rw [rest_upd, r1]; exact h6
theorem obF (k i : Nat) : Ob (fldA (at0 k) i ≠ none) := ⟨by simp [at0, fldA]⟩
theorem fixM_ok {F F2 H : PHeap} {k : Nat} {s : St} {x : AV} {v : Val} (hk : F k = none) (hp : s.p.ok = true) (hS : ∀ m ∈ s.said, OkM F m) (hF : Sub F F2) (hF2 : Sub F2 (rest H [k])) (hb : Bx H k tAg (cellsA s x)) (hsl : SlA F2 s x) :
    Triple Tryz.prog 136 #[.pointer (at0 k), v.v] H fun w H' => ∃ b n c kr F1, w = .slice b n c ∧ Sub F F1 ∧ RdL F1 mE 13 b n (s.fix v).2 ∧ AgK F1 H' k kr (s.fix v).1 ∧ AgK F H' k kr (s.fix v).1 ∧ (rest H [k]) kr = none ∧ Sub (rest H [k]) (rest H' [k]) := by
  have w7 := hb.put (i := 15) (x := .bool true) (by show 15 < 23; decide)
  have b7 : Bx (H.upd k (.cells (cellsA { s with fixed := true } x).toArray tAg (0, 0))) k tAg (cellsA { s with fixed := true } x) := Bx.new _ _ _ _
  have r7 : rest (H.upd k (.cells (cellsA { s with fixed := true } x).toArray tAg (0, 0))) [k] = rest H [k] := rest_upd _ _ _
  refine agFixM.vc (at0 k) v.pr v.at_ v.ep v.sz H _ ⟨rest H [k], rest_sub _ _, obP k, obP k, obF k 14, H.upd k (.cells (cellsA { s with fixed := true } x).toArray tAg (0, 0)), w7, by rw [← r7]; exact rest_sub _ _, obP k, obP k, obF k 14, ?_⟩
  generalize H.upd k (.cells (cellsA { s with fixed := true } x).toArray tAg (0, 0)) = H7 at b7 r7 ⊢
  have w8 := (b7.writes (cellsA { s with fixed := true, value := v } x) rfl).part (A := (cellsA s x).take 14 ++ [.bool s.ok, .bool true]) (l2 := v.c) (B := (cellsA s x).drop 20) (old := s.value.c) b7.reads rfl
  have b8 : Bx (H7.upd k (.cells (cellsA { s with fixed := true, value := v } x).toArray tAg (0, 0))) k tAg (cellsA { s with fixed := true, value := v } x) := Bx.new _ _ _ _
  have r8 : rest (H7.upd k (.cells (cellsA { s with fixed := true, value := v } x).toArray tAg (0, 0))) [k] = rest H [k] := by rw [rest_upd]; exact r7
  refine ⟨H7.upd k (.cells (cellsA { s with fixed := true, value := v } x).toArray tAg (0, 0)), w8, obP k, obP k, ?_⟩
  generalize H7.upd k (.cells (cellsA { s with fixed := true, value := v } x).toArray tAg (0, 0)) = H8 at b8 r8 ⊢
  have w9 := b8.put (i := 13) (x := jv true) (by show 13 < 23; decide)
  have b9 : Bx (H8.upd k (.cells (cellsA { s with fixed := true, value := v } { x with j := jv true }).toArray tAg (0, 0))) k tAg (cellsA { s with fixed := true, value := v } { x with j := jv true }) := Bx.new _ _ _ _
  have r9 : rest (H8.upd k (.cells (cellsA { s with fixed := true, value := v } { x with j := jv true }).toArray tAg (0, 0))) [k] = rest H [k] := by rw [rest_upd]; exact r8
  refine ⟨H8.upd k (.cells (cellsA { s with fixed := true, value := v } { x with j := jv true }).toArray tAg (0, 0)), w9, obP k, obP k, ?_⟩
  generalize H8.upd k (.cells (cellsA { s with fixed := true, value := v } { x with j := jv true }).toArray tAg (0, 0)) = H9 at b9 r9 ⊢
  have fin : ∀ {H17 : PHeap}, Sub H9 H17 → Triple Tryz.prog 94 #[.pointer (at0 k), Rnd.vM (mfix s.mark v)] H17 fun w H' => ∃ a n c, w = .slice a n c ∧ ∃ b n' c' kr F1, Value.slice a n c = .slice b n' c' ∧ Sub F F1 ∧ RdL F1 mE 13 b n' (s.fix v).2 ∧ AgK F1 H' k kr (s.fix v).1 ∧ AgK F H' k kr (s.fix v).1 ∧ (rest H [k]) kr = none ∧ Sub (rest H [k]) (rest H' [k]) := fun hs17 => by
    refine (agAll_ok (s := { s with fixed := true, value := v }) (x := { x with j := jv true }) (m := mfix s.mark v) hp (b9.sub hs17)).mono ?_
    rintro _ H' ⟨b, n, c, F1, kr, rfl, hrd, hF1, hR, hb'⟩
    have hs1 : Sub (rest H [k]) F1 := by rw [← r9]; exact (rest_mono hs17).trans hF1
    have hsl1 := hsl.mono (hF2.trans hs1)
    have hF1' := hF.trans (hF2.trans hs1)
    refine ⟨b, n, c, rfl, b, n, c, kr, F1, rfl, hF1', hrd, ⟨hR.sub.none (rest_none (by simp)), ⟨hp, rfl, (fun m hm => by cases hm), List.Pairwise.nil, (fun m hm => by cases hm), fun m hm => (hS m hm).mono hF1'⟩, F1, [], _, rfl, rfl, Sub.refl _, hR, Rnd.Both.nil, hb', ⟨hsl1.h, hsl1.a, hsl1.s⟩⟩,
      ⟨hk, ⟨hp, rfl, (fun m hm => by cases hm), List.Pairwise.nil, (fun m hm => by cases hm), hS⟩, F1, [], _, rfl, rfl, hF1', hR, Rnd.Both.nil, hb', ⟨hsl1.h, hsl1.a, hsl1.s⟩⟩, hs1.none hR.off, hs1.trans hR.sub⟩
  refine ⟨s.mark, b9.fld rfl, fun k11 hk11 => ?_⟩
  let z : List Value := [vI 0, vI 0, vI 0, vI 0, .string ⟨#[]⟩, vI 0, vI 0, vI 0, vI 0, vI 0, .slice none 0 0, .slice none 0 0, .slice none 0 0]
  let M : Int → Int → Int → Int → List Value := fun a e z w => [vI 4, vI 0, vI 0, vI 0, .string ⟨#[]⟩, vI a, vI e, vI s.mark, vI z, vI w, .slice none 0 0, .slice none 0 0, .slice none 0 0]
  have b11 : Bx (H9.upd k11 (.cells z.toArray 52 (0, 0))) k11 52 z := Bx.new _ _ _ _
  have s11 : Sub H9 (H9.upd k11 (.cells z.toArray 52 (0, 0))) := Sub.upd _ hk11
  have w12 := b11.writes (M 0 0 0 0) rfl
  have b12 : Bx ((H9.upd k11 (.cells z.toArray 52 (0, 0))).upd k11 (.cells (M 0 0 0 0).toArray 52 (0, 0))) k11 52 (M 0 0 0 0) := Bx.new _ _ _ _
  have s12 := s11.wr (o := .cells (M 0 0 0 0).toArray 52 (0, 0)) hk11
  refine ⟨_, w12, ?_⟩
  generalize (H9.upd k11 (.cells z.toArray 52 (0, 0))).upd k11 (.cells (M 0 0 0 0).toArray 52 (0, 0)) = H12 at b12 s12 ⊢
  refine ⟨fun e => ?_, fun e => ?_⟩
  · have hm : mfix s.mark v = (4, 0, 0, 0, ⟨#[]⟩, v.at_, v.ep, s.mark, v.sz, 1, ⟨none, 0, 0, []⟩, ⟨none, 0, 0, []⟩, ⟨none, 0, 0, []⟩) := by unfold mfix; rw [e]; rfl
    rw [hm] at fin
    have w14 := b12.put (i := 9) (x := vI 1) (by show 9 < 13; decide)
    have b14 : Bx (H12.upd k11 (.cells (M 0 0 0 1).toArray 52 (0, 0))) k11 52 (M 0 0 0 1) := Bx.new _ _ _ _
    have s14 := s12.wr (o := .cells (M 0 0 0 1).toArray 52 (0, 0)) hk11
    refine ⟨H9, s12, obP k11, H12.upd k11 (.cells (M 0 0 0 1).toArray 52 (0, 0)), w14, s14, obP k11, ?_⟩
    generalize H12.upd k11 (.cells (M 0 0 0 1).toArray 52 (0, 0)) = H14 at b14 s14 ⊢
    have w15 := b14.put (i := 5) (x := vI v.at_) (by show 5 < 13; decide)
    have b15 : Bx (H14.upd k11 (.cells (M v.at_ 0 0 1).toArray 52 (0, 0))) k11 52 (M v.at_ 0 0 1) := Bx.new _ _ _ _
    have s15 := s14.wr (o := .cells (M v.at_ 0 0 1).toArray 52 (0, 0)) hk11
    refine ⟨H14.upd k11 (.cells (M v.at_ 0 0 1).toArray 52 (0, 0)), w15, s15, obP k11, ?_⟩
    generalize H14.upd k11 (.cells (M v.at_ 0 0 1).toArray 52 (0, 0)) = H15 at b15 s15 ⊢
    have w16 := b15.put (i := 6) (x := vI v.ep) (by show 6 < 13; decide)
    have b16 : Bx (H15.upd k11 (.cells (M v.at_ v.ep 0 1).toArray 52 (0, 0))) k11 52 (M v.at_ v.ep 0 1) := Bx.new _ _ _ _
    have s16 := s15.wr (o := .cells (M v.at_ v.ep 0 1).toArray 52 (0, 0)) hk11
    refine ⟨H15.upd k11 (.cells (M v.at_ v.ep 0 1).toArray 52 (0, 0)), w16, s16, obP k11, ?_⟩
    generalize H15.upd k11 (.cells (M v.at_ v.ep 0 1).toArray 52 (0, 0)) = H16 at b16 s16 ⊢
    have w17 := b16.put (i := 8) (x := vI v.sz) (by show 8 < 13; decide)
    have b17 : Bx (H16.upd k11 (.cells (M v.at_ v.ep v.sz 1).toArray 52 (0, 0))) k11 52 (M v.at_ v.ep v.sz 1) := Bx.new _ _ _ _
    have s17 := s16.wr (o := .cells (M v.at_ v.ep v.sz 1).toArray 52 (0, 0)) hk11
    exact ⟨H16.upd k11 (.cells (M v.at_ v.ep v.sz 1).toArray 52 (0, 0)), w17, _, _, _, _, _, _, _, _, _, _, _, _, _, _, _, _, _, _, _, b17.reads, fin s17⟩
  · have hm : mfix s.mark v = (4, 0, 0, 0, ⟨#[]⟩, 0, 0, s.mark, 0, 0, ⟨none, 0, 0, []⟩, ⟨none, 0, 0, []⟩, ⟨none, 0, 0, []⟩) := by unfold mfix; rw [e]; rfl
    rw [hm] at fin
    exact ⟨_, _, _, _, _, _, _, _, _, _, _, _, _, _, _, _, _, _, _, b12.reads, fin s12⟩
end Go.Agr
namespace Go.Agr
open Go.Vx Go.Vc Go.Proofs Go.Pln Go.Stl
open Go.Rnd (takesG insG froms againG RdS Both OkM AscG)
def init0 (p : Plan) (b : Int) (nm : ByteArray) (force live : Bool) (mark : Int) : St := ⟨p, b, nm, force, live, false, mark, [], [], [], 0, false, false, val0, [], [], []⟩
def x0 : AV := ⟨none, .nilFunc, none, 0, 0, none, 0, 0, none, 0, 0⟩
theorem begin_ok {H : PHeap} {p : Plan} {b : Int} {nm : ByteArray} (hp : p.ok = true) : Triple Tryz.prog 92 #[p.v, vI b, .string nm] H fun v H' => ∃ k, v = .pointer (at0 k) ∧ H k = none ∧ Sub H (rest H' [k]) ∧ Bx H' k tAg (cellsA (init0 p b nm false false 0) x0) := by
  refine agBegin.vc p.n p.t p.l p.w p.s p.r b nm H _ ⟨H, Sub.refl _, (right_ok p).use ⟨_, rfl, Sub.refl _, fun k hk => ?_⟩⟩
  rw [hp]
  refine ⟨k, rfl, hk, ?_, Bx.new _ _ _ _⟩
  rw [rest_upd]
  exact rest_le (Sub.refl _) (by simpa using hk)
/-- A plan's agreement begins, and asks. -/
abbrev Began (H : PHeap) (r : St × List Msg) (v : Value) (H' : PHeap) : Prop := ∃ k b n c F, v = .tuple #[.pointer (at0 k), .slice b n c] ∧ H k = none ∧ Sub H F ∧ RdL F mE 13 b n r.2 ∧ AgS F H' k r.1
theorem settle_ok {H : PHeap} {p : Plan} {b : Int} {nm : ByteArray} {force : Bool} (hp : p.ok = true) :
    Triple Tryz.prog 57 #[p.v, vI b, .string nm, .bool force] H (Began H ((init0 p b nm force false (IntKind.i64.wrap (2 * b))).ask mask)) := by
  refine agSettle.vc p.n p.t p.l p.w p.s p.r b nm force H _ ((begin_ok hp).mono ?_)
  rintro _ H1 ⟨k, rfl, hk, hs1, hb⟩
  refine ⟨at0 k, rfl, obP k, obP k, _, hb.fld (i := 10) rfl, fun e => (by cases e), fun _ => ⟨obP k, obP k, _, hb.put (i := 8) (x := .bool force) (by show 8 < 23; decide), obP k, obP k, ?_⟩⟩
  have b2 : Bx (H1.upd k (.cells (cellsA (init0 p b nm force false 0) x0).toArray tAg (0, 0))) k tAg (cellsA (init0 p b nm force false 0) x0) := Bx.new _ _ _ _
  have r2 : rest (H1.upd k (.cells (cellsA (init0 p b nm force false 0) x0).toArray tAg (0, 0))) [k] = rest H1 [k] := rest_upd _ _ _
  refine ⟨_, b2.put (i := 13) (x := jv false) (by show 13 < 23; decide), obP k, obP k, ?_⟩
  have b3 : Bx ((H1.upd k (.cells (cellsA (init0 p b nm force false 0) x0).toArray tAg (0, 0))).upd k (.cells (cellsA (init0 p b nm force false 0) { x0 with j := jv false }).toArray tAg (0, 0))) k tAg (cellsA (init0 p b nm force false 0) { x0 with j := jv false }) := Bx.new _ _ _ _
  have r3 : rest ((H1.upd k (.cells (cellsA (init0 p b nm force false 0) x0).toArray tAg (0, 0))).upd k (.cells (cellsA (init0 p b nm force false 0) { x0 with j := jv false }).toArray tAg (0, 0))) [k] = rest H1 [k] := by rw [rest_upd, r2]
  refine ⟨_, b3.put (i := 11) (x := vI (IntKind.i64.wrap (2 * b))) (by show 11 < 23; decide), ?_⟩
  have b4 : Bx (((H1.upd k (.cells (cellsA (init0 p b nm force false 0) x0).toArray tAg (0, 0))).upd k (.cells (cellsA (init0 p b nm force false 0) { x0 with j := jv false }).toArray tAg (0, 0))).upd k (.cells (cellsA (init0 p b nm force false (IntKind.i64.wrap (2 * b))) { x0 with j := jv false }).toArray tAg (0, 0))) k tAg (cellsA (init0 p b nm force false (IntKind.i64.wrap (2 * b))) { x0 with j := jv false }) := Bx.new _ _ _ _
  have r4 : rest (((H1.upd k (.cells (cellsA (init0 p b nm force false 0) x0).toArray tAg (0, 0))).upd k (.cells (cellsA (init0 p b nm force false 0) { x0 with j := jv false }).toArray tAg (0, 0))).upd k (.cells (cellsA (init0 p b nm force false (IntKind.i64.wrap (2 * b))) { x0 with j := jv false }).toArray tAg (0, 0))) [k] = rest H1 [k] := by rw [rest_upd, r3]
  refine (agAll_ok (s := init0 p b nm force false (IntKind.i64.wrap (2 * b))) (m := mask) hp b4).mono ?_
  rintro _ H' ⟨a, n, c, F1, kr, rfl, hrd, hF1, hR, hb'⟩
  rw [r4] at hF1
  exact ⟨a, n, c, rfl, k, a, n, c, F1, rfl, hk, hs1.trans hF1, hrd, kr, hR.sub.none (rest_none (by simp)), ⟨hp, rfl, fun m hm => (by cases hm), List.Pairwise.nil, fun m hm => (by cases hm), fun m hm => (by cases hm)⟩, F1, [], _, rfl, rfl, Sub.refl _, hR, Rnd.Both.nil, hb', ⟨RdL.nil _ _ _, RdL.nil _ _ _, RdL.nil _ _ _⟩⟩
theorem all_eq {wait : List Int} {got : List (Int × Msg)} {G : List Msg} (h : Both got G) : Rnd.allB wait got = allG wait G := by
  unfold Rnd.allB allG
  congr 1; funext i; exact h.some i
theorem got_len {got : List (Int × Msg)} {G : List Msg} (h : Both got G) : got.length = G.length := by
  have := h.keys.length_eq
  simpa using this
theorem asked_ok {F H : PHeap} {k kr : Nat} {s : St} (h : AgK F H k kr s) (hf : s.fixed = false) : Triple Tryz.prog 93 #[.pointer (at0 k)] H (Judged F k kr s s.judge0) := by
  obtain ⟨h1, h2, F1, got, x, h3, h4, h5, h6, h7, h8, h9⟩ := h
  have hlen := h2.len
  refine agAsked.vc (at0 k) H _ ⟨obP k, obP k, x.r, h8.fld rfl, ?_⟩
  rw [h3]
  refine (callR (Rnd.got_own h6 (by rw [got_len h7]; omega)) h8).mono ?_
  rintro _ H4 ⟨G4, ⟨b5, n6, c7, K, rfl, hK, hrd, hsub, hoffb⟩, hG4, hb4⟩
  have hKG : (K.map fun i => (mlook got i).getD Rnd.z0) = s.G := h7.got hK
  rw [hKG] at hrd
  have s4 : Sub (rest H [k]) (rest H4 [k]) := hsub.trans hG4
  have rp : Reads H4 (fldA (at0 k) 0) [vI s.p.n, vI s.p.t, vI s.p.l, vI s.p.w, vI s.p.s, vI s.p.r] := hb4.readsAt 0 fun j v hv => by
    match j, hv with
    | 0, hv => exact hv
    | 1, hv => exact hv
    | 2, hv => exact hv
    | 3, hv => exact hv
    | 4, hv => exact hv
    | 5, hv => exact hv
    | j + 6, hv => simp at hv
  have hl6 := hrd.len
  refine ⟨b5, n6, c7, rfl, obP k, obP k, _, _, _, _, _, _, rp, (callR (sSettle_ok (p := s.p) (hrd.mono hG4) (fun x hx => (h2.okG x hx).who.mono (h5.trans (h6.sub.trans s4))) (by omega)) hb4).mono ?_⟩
  rintro _ H15 ⟨G15, ⟨b, m, q, rfl, ho, hs15, ho15⟩, hG15, hb15⟩
  have s15 : Sub (rest H4 [k]) (rest H15 [k]) := hs15.trans hG15
  have s0 := s4.trans s15
  have hR15 := RdS_grow h6 s0
  have hF2 : Sub F1 (grow F1 (rest H [k]) (rest H15 [k])) := grow_le h6.sub
  have rGot : RdL (grow F1 (rest H [k]) (rest H15 [k])) mE 13 b5 n6 s.G := rd_grow (hrd.mono (hG4.trans s15)) hoffb
  have rHold : RdL (grow F1 (rest H [k]) (rest H15 [k])) iE 1 b m (verd s.p s.G).holders := rd_grow ((ho.rd (E := iE) (sz := 1) (by omega) Rnd.iLen).mono hG15) (ho15.sub s4)
  have hsl := h9.mono hF2
  have hj : s.judge0 = if (verd s.p s.G).enough then
      if (verd s.p s.G).clean && !s.force then (St.end_ { s with said := s.G, value := (verd s.p s.G).value, holders := (verd s.p s.G).holders } true, [])
      else St.fix { s with said := s.G } (verd s.p s.G).value
    else if allG s.wait s.G then (s.end_ false, []) else (s, []) := rfl
  generalize grow F1 (rest H [k]) (rest H15 [k]) = F2 at hR15 hF2 rGot rHold hsl
  generalize verd s.p s.G = w at hj rHold
  have hFF := h5.trans hF2
  have main : w.enough = true → Ob (at0 k ≠ none) ∧ Ob (at0 k ≠ none) ∧ Ob (fldA (at0 k) 14 ≠ none) ∧ ∃ H35, Writes H15 H35 (fldA (fldA (at0 k) 14) 8) [.slice b5 n6 c7] ∧ Bx H35 k tAg (cellsA { s with said := s.G } { x with s := b5, sn := n6, sc := c7 }) ∧ rest H35 [k] = rest H15 [k] := fun _ =>
    ⟨obP k, obP k, obF k 14, _, hb15.put (i := 22) (x := .slice b5 n6 c7) (by show 22 < 23; decide), Bx.new _ _ _ _, rest_upd _ _ _⟩
  have sl22 : SlA F2 { s with said := s.G } { x with s := b5, sn := n6, sc := c7 } := ⟨hsl.h, hsl.a, rGot⟩
  refine ⟨w.enough, w.clean, w.value.pr, w.value.at_, w.value.ep, w.value.sz, w.mark, b, m, q, rfl, fun e1 => ?_, fun e1 => ?_⟩
  · have e1' : w.enough = false := by simpa using e1
    rw [e1'] at hj
    simp only [Bool.false_eq_true, if_false] at hj
    refine ⟨obP k, obP k, x.r, hb15.fld rfl, ?_⟩
    rw [h3]
    refine (callR (Rnd.all_ok hR15) hb15).mono ?_
    rintro _ H28 ⟨G28, ⟨rfl, hs28⟩, hG28, hb28⟩
    have hA : AgK F H28 k kr s := ⟨h1, h2, F2, got, x, h3, h4, hFF, hR15.mono (hs28.trans hG28), h7, hb28, hsl⟩
    rw [all_eq h7]
    refine ⟨_, rfl, fun e2 => ?_, fun e2 => ⟨fun _ => ?_, fun e3 => ?_⟩⟩
    · refine (end_ok hA).mono ?_
      rintro _ H' ⟨rfl, hA'⟩
      rw [hj, if_pos e2]
      exact ⟨_, _, _, rfl, none, 0, 0, kr, rfl, RdL.nil _ _ _, hA', Moved.stay hA' rfl, fun _ _ => rfl⟩
    · rw [hj, if_neg (by rw [e2]; decide)]
      exact ⟨none, 0, 0, kr, rfl, RdL.nil _ _ _, hA, Moved.stay hA rfl, fun _ _ => rfl⟩
    · rw [e1'] at e3; cases e3
  · have e1' : w.enough = true := by simpa using e1
    refine ⟨fun e2 => (by rw [e1'] at e2; cases e2), fun _ => ?_⟩
    rw [e1', if_pos rfl] at hj
    obtain ⟨o1, o2, o3, H35, w35, hb35, r35⟩ := main e1'
    have fixes : (w.clean && !s.force) = false → Triple Tryz.prog 136 #[.pointer (at0 k), w.value.v] H35 fun v H' => ∃ a k1 k2, v = Value.slice a k1 k2 ∧ Judged F k kr s s.judge0 (.slice a k1 k2) H' := fun hc => by
      rw [hj, hc]
      refine (fixM_ok (F := F) (F2 := F2) (s := { s with said := s.G }) (v := w.value) h1 h2.pok h2.okG hFF (by rw [r35]; exact hR15.sub) hb35 sl22).mono ?_
      rintro _ H' ⟨a, n, c, kr', F3, rfl, hF3, hrd', hA3, hA, hnk, hsub'⟩
      refine ⟨a, n, c, rfl, a, n, c, kr', rfl, hrd'.mono hA3.sub, hA, ⟨?_, ?_⟩, fun ho hov => (by simp only [Bool.false_eq_true, if_false] at hov; exact absurd (ho.symm.trans hov) (by decide))⟩
      · obtain ⟨l, hl⟩ := RdS_bx hR15
        rw [r35] at hsub'
        exact ⟨l, (hl.sub hsub').sub (rest_sub _ _)⟩
      · obtain ⟨l, hl⟩ := RdS_bx hR15
        have hne : kr' ≠ kr := fun e => by
          rw [e, r35] at hnk
          unfold Bx at hl
          rw [hnk] at hl; cases hl
        rw [decide_eq_false hne, hf]; rfl
    refine ⟨o1, o2, o3, H35, w35, fun e2 => ⟨obP k, obP k, s.force, hb35.fld (i := 8) rfl, fun e3 => ?_, fun e3 => ?_⟩, fun e2 => ?_⟩
    · rw [e2, e3] at hj
      simp only [Bool.and_self, if_true] at hj
      have w38 := (hb35.writes (cellsA { s with said := s.G, value := w.value } { x with s := b5, sn := n6, sc := c7 }) rfl).part (A := (cellsA s x).take 16) (l2 := w.value.c) (B := [.slice x.h x.hn x.hc, .slice x.a x.an x.ac, .slice b5 n6 c7]) (old := s.value.c) hb35.reads rfl
      have b38 : Bx (H35.upd k (.cells (cellsA { s with said := s.G, value := w.value } { x with s := b5, sn := n6, sc := c7 }).toArray tAg (0, 0))) k tAg (cellsA { s with said := s.G, value := w.value } { x with s := b5, sn := n6, sc := c7 }) := Bx.new _ _ _ _
      have r38 : rest (H35.upd k (.cells (cellsA { s with said := s.G, value := w.value } { x with s := b5, sn := n6, sc := c7 }).toArray tAg (0, 0))) [k] = rest H15 [k] := by rw [rest_upd, r35]
      refine ⟨rest H15 [k], by rw [← r35]; exact rest_sub _ _, obP k, obP k, obF k 14, H35.upd k (.cells (cellsA { s with said := s.G, value := w.value } { x with s := b5, sn := n6, sc := c7 }).toArray tAg (0, 0)), w38, by rw [← r38]; exact rest_sub _ _, obP k, obP k, obF k 14, ?_⟩
      generalize H35.upd k (.cells (cellsA { s with said := s.G, value := w.value } { x with s := b5, sn := n6, sc := c7 }).toArray tAg (0, 0)) = H38 at b38 r38 ⊢
      have w39 := b38.put (i := 20) (x := .slice b m q) (by show 20 < 23; decide)
      refine ⟨_, w39, ?_⟩
      have hA : AgK F (H38.upd k (.cells (cellsA { s with said := s.G, value := w.value, holders := w.holders } { x with s := b5, sn := n6, sc := c7, h := b, hn := m, hc := q }).toArray tAg (0, 0))) k kr { s with said := s.G, value := w.value, holders := w.holders } :=
        ⟨h1, ⟨h2.pok, h2.wt, h2.gin, h2.asc, h2.okG, h2.okG⟩, F2, got, { x with s := b5, sn := n6, sc := c7, h := b, hn := m, hc := q }, h3, h4, hFF, by rw [rest_upd, r38]; exact hR15, h7, Bx.new _ _ _ _, ⟨rHold, hsl.a, rGot⟩⟩
      refine (end_ok hA).mono ?_
      rintro _ H' ⟨rfl, hA'⟩
      rw [hj]
      exact ⟨none, 0, 0, rfl, none, 0, 0, kr, rfl, RdL.nil _ _ _, hA', Moved.stay hA' rfl, fun _ _ => rfl⟩
    · exact fixes (by rw [e2, e3]; rfl)
    · exact fixes (by rw [show w.clean = false by simpa using e2]; rfl)
end Go.Agr
namespace Go.Agr
open Go.Vx Go.Vc Go.Proofs Go.Pln Go.Stl
open Go.Rnd (takesG insG froms againG RdS Both OkM AscG)
theorem ackL_snoc (L : List Msg) (x : Msg) : ackL (L ++ [x]) = ackL L ++ if kind_ x == 17 then [x] else [] := by
  unfold ackL
  rw [List.filter_append]
  cases h : kind_ x == 17 <;> simp [h]
theorem fixed_ok {F H : PHeap} {k kr : Nat} {s : St} (h : AgK F H k kr s) (hf : s.fixed = true) : Triple Tryz.prog 165 #[.pointer (at0 k)] H (Judged F k kr s s.judge1) := by
  obtain ⟨h1, h2, F1, got, x, h3, h4, h5, h6, h7, h8, h9⟩ := h
  have hlen := h2.len
  have w2 := h8.put (i := 21) (x := .slice none 0 0) (by show 21 < 23; decide)
  have b2 : Bx (H.upd k (.cells (cellsA s { x with a := none, an := 0, ac := 0 }).toArray tAg (0, 0))) k tAg (cellsA s { x with a := none, an := 0, ac := 0 }) := Bx.new _ _ _ _
  have r2 : rest (H.upd k (.cells (cellsA s { x with a := none, an := 0, ac := 0 }).toArray tAg (0, 0))) [k] = rest H [k] := rest_upd _ _ _
  refine agFixed.vc (at0 k) H _ ⟨obP k, obP k, obF k 14, H.upd k (.cells (cellsA s { x with a := none, an := 0, ac := 0 }).toArray tAg (0, 0)), w2, obP k, obP k, x.r, b2.fld rfl, ?_⟩
  generalize H.upd k (.cells (cellsA s { x with a := none, an := 0, ac := 0 }).toArray tAg (0, 0)) = H2 at b2 r2 ⊢
  rw [h3]
  have h6' := h6
  rw [← r2] at h6'
  refine (callR (Rnd.got_own h6' (by rw [got_len h7]; omega)) b2).mono ?_
  rintro _ H5 ⟨G5, ⟨b6, n7, c8, K, rfl, hK, hrd, hsub, hoffb⟩, hG5, hb5⟩
  have hKG : (K.map fun i => (mlook got i).getD Rnd.z0) = s.G := h7.got hK
  rw [hKG] at hrd
  have s5 : Sub (rest H [k]) (rest H5 [k]) := by rw [← r2]; exact hsub.trans hG5
  have rdG := hrd.mono hG5
  have hl7 := rdG.len
  refine ⟨b6, n7, c8, rfl, fun t H' => match t with | [.slice a q c, .int _ i] => 0 ≤ i ∧ i ≤ n7 ∧ Sub (rest H5 [k]) H' ∧ OwnL H' 52 mE 13 a q c (ackL (s.G.take i.toNat)) ∧ Off (rest H5 [k]) a ∧ (∀ z, a = some z → z.block ≠ k) ∧ ∃ ab an ac, Bx H' k tAg (cellsA s { x with a := ab, an := an, ac := ac }) ∧ OwnL H' 3 iE 1 ab an ac ((ackL (s.G.take i.toNat)).map from_) ∧ Off (rest H5 [k]) ab ∧ (∀ z, ab = some z → z.block ≠ k) ∧ (∀ z y, a = some z → ab = some y → z.block ≠ y.block) | _ => False, fun t _ => match t with | [_, .int _ i] => (n7 - i).toNat | _ => 0, ⟨by omega, by omega, rest_sub _ _, Owns.nil _ _ 13, Off.none _, (fun z e => by cases e), none, 0, 0, hb5, Owns.nil _ _ 1, Off.none _, (fun z e => by cases e), fun z y e => by cases e⟩, ?_⟩
  rintro a q c i H15 ⟨i0, i1, s15, how, hoff, hne, ab, an, ac, hb15, hob, hoffb2, hneb, hap⟩
  obtain ⟨i, rfl⟩ : ∃ j : Nat, i = j := ⟨i.toNat, by omega⟩
  rw [Int.toNat_natCast] at how hob
  have hql := (how.rd (E := mE) (sz := 13) (by omega) Rnd.mLen).len
  have hal := (hob.rd (E := iE) (sz := 1) (by omega) Rnd.iLen).len
  rw [List.length_map] at hal
  have hfl : (ackL (s.G.take i)).length ≤ 256 := by
    have : (ackL (s.G.take i)).length ≤ (s.G.take i).length := List.length_filter_le ..
    rw [List.length_take] at this
    omega
  refine ⟨fun hi => ?_, fun hi => ?_⟩
  · have hi' : i < n7 := by simpa using hi
    have rdG15 := rdG.mono s15
    obtain ⟨y, hy, hyr⟩ := rdG15.ex (i := (i : Int)) (by omega) (by omega)
    rw [Int.toNat_natCast] at hy
    have hsn := ackL_snoc (s.G.take i) y
    rw [show s.G.take i ++ [y] = s.G.take (i + 1) by rw [List.take_add_one, hy]; rfl] at hsn
    have hky : ∀ y1, kind_ y = y1 → (kind_ y == 17) = (y1 == 17) := by rintro _ rfl; rfl
    have hfy : ∀ y2, from_ y = y2 → [y].map from_ = [y2] := by rintro _ rfl; rfl
    have hmo := Rnd.mOne y
    obtain ⟨y1, y2, y3, y4, y5, y6, y7, y8, y9, y10, ⟨ya, yb, yc, yl⟩, ⟨za, zb, zc, zl⟩, ⟨wa, wb, wc, wl⟩⟩ := y
    rw [hky y1 rfl] at hsn
    have hfy' := hfy y2 rfl
    rw [Rnd.wrapS (i := (i : Int)) (by omega) (by omega)]
    refine ⟨rdG15.ob (by omega) (by omega), y1, y2, y3, y4, y5, y6, y7, y8, y9, y10, ya, yb, yc, za, zb, zc, wa, wb, wc, hyr, fun e1 k35 hk35 => ?_, fun e1 => ?_⟩
    · rw [e1, if_pos rfl] at hsn
      refine append_one Rnd.tM (E := mE) hk35 Rnd.mLen how rfl hmo (by simp [maxLen]; omega) (by omega) ?_
      intro a' c' H37 how' hf' hfr' hnn
      have hb37 := hf'.bx hb15 hne
      have hob37 : OwnL H37 3 iE 1 ab an ac ((ackL (s.G.take i)).map from_) := hob.mono fun z o hz ho => hf' _ _ ho fun z' hz' e => hap z' z hz' hz e.symm
      have hne' := hfr'.ne hb15 hne
      have hap' : ∀ z y, a' = some z → ab = some y → z.block ≠ y.block := fun z y hz hy => by
        subst hy
        obtain ⟨o, ho⟩ := hob.blk
        exact hfr'.ne ho (fun z' hz' => hap z' y hz' rfl) z hz
      have s37 := hf'.sub s15 hoff
      have hoff' := hfr'.off s15 hoff
      refine ⟨a', q + 1, c', rfl, H37, Sub.refl _, obP k, obP k, obF k 14, ab, an, ac, hb37.fld (i := 21) rfl, fun k45 hk45 => ⟨Sub.upd _ hk45, ?_⟩⟩
      refine append_one Rnd.tI (E := iE) (x := y2) hk45 Rnd.iLen hob37 rfl (Rnd.iOne _) (by simp [maxLen]; omega) (by omega) ?_
      intro ab' ac' H47 hob' hf2 hfr2 _
      have hb47 := hf2.bx hb37 hneb
      have how47 : OwnL H47 52 mE 13 a' (q + 1) c' _ := how'.mono fun z o hz ho => hf2 _ _ ho fun z' hz' e => hap' z z' hz hz' e
      have hneb' := hfr2.ne hb37 hneb
      have hap2 : ∀ z y, a' = some z → ab' = some y → z.block ≠ y.block := fun z y hz hy => by
        subst hz
        obtain ⟨o, ho⟩ := how'.blk
        exact fun e => hfr2.ne ho (fun z' hz' e' => hap' z z' rfl hz' e'.symm) y hy e.symm
      have s47 := hf2.sub s37 hoffb2
      have hoffb' := hfr2.off s37 hoffb2
      have w51 := hb47.put (i := 21) (x := .slice ab' (an + 1) ac') (by show 21 < 23; decide)
      refine ⟨ab', an + 1, ac', rfl, obP k, obP k, obF k 14, _, w51, ⟨by omega, by omega, ?_⟩, ⟨by simp only; omega⟩⟩
      rw [show ((i : Int) + 1).toNat = i + 1 by omega, hsn, List.map_append, hfy']
      refine ⟨s47.wr (rest_none (by simp)), how47.mono fun z o hz ho => by rw [Vx.upd_ne _ _ (hne' z hz)]; exact ho, hoff', hne', ab', an + 1, ac', Bx.new _ _ _ _, hob'.mono fun z o hz ho => by rw [Vx.upd_ne _ _ (hneb' z hz)]; exact ho, hoffb', hneb', hap2⟩
    · rw [e1] at hsn
      simp only [Bool.false_eq_true, if_false, List.append_nil] at hsn
      refine ⟨⟨by omega, by omega, ?_⟩, ⟨by simp only; omega⟩⟩
      rw [show ((i : Int) + 1).toNat = i + 1 by omega, hsn]
      exact ⟨s15, how, hoff, hne, ab, an, ac, hb15, hob, hoffb2, hneb, hap⟩
  · have hi' : ¬ i < n7 := by simpa using hi
    rw [List.take_of_length_le (by omega)] at how hob hfl hql hal
    have ra := (how.rd (E := mE) (sz := 13) (by omega) Rnd.mLen).rest (ks := [k]) fun z hz => by simpa using hne z hz
    have s15r : Sub (rest H5 [k]) (rest H15 [k]) := rest_le s15 (by simpa using rest_none (by simp))
    have rv : Reads H15 (fldA (at0 k) 16) s.value.c := hb15.readsAt 16 fun j v hv => by
      match j, hv with
      | 0, hv => exact hv
      | 1, hv => exact hv
      | 2, hv => exact hv
      | 3, hv => exact hv
      | j + 4, hv => simp at hv
    refine ⟨obP k, obP k, obF k 14, _, _, _, _, rv, (callR (sHold_ok (v := s.value) ra (by omega)) hb15).mono ?_⟩
    rintro _ H57 ⟨G57, ⟨b, m, q2, rfl, ho, hs57, ho57⟩, hG57, hb57⟩
    have s57 : Sub (rest H15 [k]) (rest H57 [k]) := hs57.trans hG57
    have w61 := hb57.put (i := 20) (x := .slice b m q2) (by show 20 < 23; decide)
    have b61 : Bx (H57.upd k (.cells (cellsA s { x with a := ab, an := an, ac := ac, h := b, hn := m, hc := q2 }).toArray tAg (0, 0))) k tAg (cellsA s { x with a := ab, an := an, ac := ac, h := b, hn := m, hc := q2 }) := Bx.new _ _ _ _
    have s0 := s5.trans (s15r.trans s57)
    have hR := RdS_grow h6 s0
    have hF2 : Sub F1 (grow F1 (rest H [k]) (rest H57 [k])) := grow_le h6.sub
    have rdh := ho.rd (E := iE) (sz := 1) (by omega) Rnd.iLen
    have rH : RdL (grow F1 (rest H [k]) (rest H57 [k])) iE 1 b m (holdL s.value (ackL s.G)) := rd_grow (rdh.mono hG57) (ho57.sub (s5.trans s15r))
    have rA : RdL (grow F1 (rest H [k]) (rest H57 [k])) iE 1 ab an ((ackL s.G).map from_) := rd_grow ((((hob.rd (E := iE) (sz := 1) (by omega) Rnd.iLen).rest (ks := [k]) fun z hz => by simpa using hneb z hz)).mono s57) (hoffb2.sub s5)
    have hml := rdh.len
    have hA : AgK F (H57.upd k (.cells (cellsA s { x with a := ab, an := an, ac := ac, h := b, hn := m, hc := q2 }).toArray tAg (0, 0))) k kr s.counted :=
      ⟨h1, ⟨h2.pok, h2.wt, h2.gin, h2.asc, h2.okG, h2.okS⟩, _, got, { x with a := ab, an := an, ac := ac, h := b, hn := m, hc := q2 }, h3, h4, h5.trans hF2, by rw [rest_upd]; exact hR, h7, Bx.new _ _ _ _, ⟨rH, rA, h9.s.mono hF2⟩⟩
    refine ⟨b, m, q2, rfl, obP k, obP k, obF k 14, _, w61, obP k, obP k, ?_⟩
    have hR61 : RdS (grow F1 (rest H [k]) (rest H57 [k])) (rest (H57.upd k (.cells (cellsA s { x with a := ab, an := an, ac := ac, h := b, hn := m, hc := q2 }).toArray tAg (0, 0))) [k]) kr s.asks s.wait got s.tries := by rw [rest_upd]; exact hR
    have e61 : H57.upd k (.cells ((cellsA s { x with a := ab, an := an, ac := ac }).set 20 (.slice b m q2)).toArray tAg (0, 0)) = H57.upd k (.cells (cellsA s { x with a := ab, an := an, ac := ac, h := b, hn := m, hc := q2 }).toArray tAg (0, 0)) := rfl
    rw [e61]
    generalize H57.upd k (.cells (cellsA s { x with a := ab, an := an, ac := ac, h := b, hn := m, hc := q2 }).toArray tAg (0, 0)) = H61 at b61 hA hR61 ⊢
    have hj : s.judge1 = if decide ((s.num : Int) ≥ s.p.w) || allG s.wait s.G then (s.counted.end_ (decide ((s.num : Int) ≥ s.p.w)), []) else (s.counted, []) := rfl
    have fin : ∀ n : Nat, n = s.num → (decide ((n : Int) ≥ s.p.w) = true → Triple Tryz.prog 69 #[.pointer (at0 k), .bool (decide ((n : Int) ≥ s.p.w))] H61 fun v H' => ∃ a1 k1 k2, v = Value.slice a1 k1 k2 ∧ Judged F k kr s s.judge1 (.slice a1 k1 k2) H') ∧
        (decide ((n : Int) ≥ s.p.w) = false → Triple Tryz.prog 45 #[.pointer (at0 kr)] H61 fun v H69 => ∃ b70, v = Value.bool b70 ∧ (b70 = true → Bx H69 k tAg (cellsA s { x with a := ab, an := an, ac := ac, h := b, hn := m, hc := q2 }) ∧ Triple Tryz.prog 69 #[.pointer (at0 k), .bool (decide ((n : Int) ≥ s.p.w))] H69 fun v H' => ∃ a1 k1 k2, v = Value.slice a1 k1 k2 ∧ Judged F k kr s s.judge1 (.slice a1 k1 k2) H') ∧ (b70 = false → Judged F k kr s s.judge1 (.slice none 0 0) H69)) := fun n hn => by
      rw [← hn] at hj
      refine ⟨fun e => (end_ok hA).mono ?_, fun e => (callR (Rnd.all_ok hR61) b61).mono ?_⟩
      · rintro _ H' ⟨rfl, hA'⟩
        rw [hj, e]
        rw [e] at hA'
        exact ⟨_, _, _, rfl, none, 0, 0, kr, rfl, RdL.nil _ _ _, hA', Moved.stay hA' rfl, fun _ _ => rfl⟩
      · rintro _ H69 ⟨G69, ⟨rfl, hs69⟩, hG69, hb69⟩
        have hA69 : AgK F H69 k kr s.counted :=
          ⟨h1, ⟨h2.pok, h2.wt, h2.gin, h2.asc, h2.okG, h2.okS⟩, _, got, { x with a := ab, an := an, ac := ac, h := b, hn := m, hc := q2 }, h3, h4, h5.trans hF2, hR61.mono (hs69.trans hG69), h7, hb69, ⟨rH, rA, h9.s.mono hF2⟩⟩
        rw [all_eq h7]
        refine ⟨_, rfl, fun e2 => ⟨hb69, (end_ok hA69).mono ?_⟩, fun e2 => ?_⟩
        · rintro _ H' ⟨rfl, hA'⟩
          rw [hj, e, e2]
          rw [e] at hA'
          exact ⟨_, _, _, rfl, none, 0, 0, kr, rfl, RdL.nil _ _ _, hA', Moved.stay hA' rfl, fun _ _ => rfl⟩
        · rw [hj, e, e2]
          exact ⟨none, 0, 0, kr, rfl, RdL.nil _ _ _, hA69, Moved.stay hA69 rfl, fun _ _ => rfl⟩
    refine ⟨s.live, b61.fld (i := 9) rfl, fun e => ?_, fun e => ?_⟩
    · have hn : m = s.num := by unfold St.num; rw [e, if_pos rfl, hml]
      obtain ⟨f1, f2⟩ := fin m hn
      refine ⟨obP k, obP k, obF k 14, b, m, q2, b61.fld (i := 20) rfl, obP k, obP k, obF k 0, s.p.w, b61.fld (i := 3) rfl, fun e2 => ⟨obP k, obP k, x.r, b61.fld (i := 12) rfl, ?_⟩, fun e2 => ⟨obP k, obP k, obF k 0, s.p.w, b61.fld (i := 3) rfl, f1 (by simpa using e2)⟩⟩
      rw [h3]
      refine (f2 e2).mono ?_
      rintro _ H69 ⟨b70, rfl, g1, g2⟩
      exact ⟨b70, rfl, fun e3 => ⟨obP k, obP k, obF k 0, s.p.w, (g1 e3).1.fld (i := 3) rfl, (g1 e3).2⟩, fun e3 => g2 e3⟩
    · have hn : q = s.num := by unfold St.num; rw [e, if_neg (by decide), hql]
      obtain ⟨f1, f2⟩ := fin q hn
      refine ⟨obP k, obP k, obF k 0, s.p.w, b61.fld (i := 3) rfl, fun e2 => ⟨obP k, obP k, x.r, b61.fld (i := 12) rfl, ?_⟩, fun e2 => ⟨obP k, obP k, obF k 0, s.p.w, b61.fld (i := 3) rfl, f1 (by simpa using e2)⟩⟩
      rw [h3]
      refine (f2 e2).mono ?_
      rintro _ H69 ⟨b70, rfl, g1, g2⟩
      exact ⟨b70, rfl, fun e3 => ⟨obP k, obP k, obF k 0, s.p.w, (g1 e3).1.fld (i := 3) rfl, (g1 e3).2⟩, fun e3 => g2 e3⟩
end Go.Agr
