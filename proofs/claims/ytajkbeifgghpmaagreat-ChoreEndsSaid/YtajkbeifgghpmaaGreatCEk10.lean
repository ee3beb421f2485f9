/- What is to be shown of each function, in its normal form.  · The contracts of a chore's object: what it holds; the end, an agreement's and a round's beginning. · The contracts of a chore's object: a round begins; names. -/
import Derived.Test.YtajkbeifgghpmaaGreatProg
import Derived.Test.YtajkbeifgghpmaaGreatCEk09
set_option linter.unusedVariables false
set_option maxRecDepth 100000
namespace Go.Vc
open Go.Vx Go
def choStart.cx : Cx := ⟨[13], [], [], []⟩
def choDone.cx : Cx := ⟨[], [], [], []⟩
def choTick.cx : Cx := ⟨[], [], [], []⟩
def choTake.cx : Cx := ⟨[], [], [], []⟩
def choEnd.cx : Cx := ⟨[], [], [], []⟩
def choList.cx : Cx := ⟨[], [], [], []⟩
def choAgree.cx : Cx := ⟨[], [], [], []⟩
def choMend.cx : Cx := ⟨[6], [], [], []⟩
def choPurge.cx : Cx := ⟨[], [], [], []⟩
def choGoes.cx : Cx := ⟨[], [], [], []⟩
def choRefuses.cx : Cx := ⟨[], [], [], []⟩
def choTakes.cx : Cx := ⟨[], [], [], []⟩
def choAll.cx : Cx := ⟨[], [], [], []⟩
def choListed.cx : Cx := ⟨[], [], [], []⟩
def choRound.cx : Cx := ⟨[1000006], [(4, [11, 21], [6])], [], []⟩
def choAnswered.cx : Cx := ⟨[], [], [], []⟩
def choName.cx : Cx := ⟨[], [], [], []⟩
def choNamed.cx : Cx := ⟨[1], [(8, [56], [])], [], []⟩
def choNamed1.cx : Cx := ⟨[], [], [], []⟩
def choNamed2.cx : Cx := ⟨[], [], [], []⟩
def cloneC.cx : Cx := ⟨[], [], [], []⟩
theorem choStart.vc (n1 : Int) (n2 : Int) (n3 : Int) (n4 : Int) (n5 : Int) (n6 : Int) (n7 : Int) (n8 : Int) (s9 : ByteArray) (n10 : Int) (H : PHeap) (Q : Value → PHeap → Prop)
 (h : ∀ (k11 : Nat),
 H k11 = none →
 Triple Proofs.Tryz.prog 19
 #[Value.agg #[Value.int IntKind.i64 n1, Value.int IntKind.i64 n2, Value.int IntKind.i64 n3, Value.int IntKind.i64 n4, Value.int IntKind.i64 n5, Value.int IntKind.i64 n6]]
 (H.upd k11
 (Obj.cells
 #[Value.int IntKind.i64 n1, Value.int IntKind.i64 n2, Value.int IntKind.i64 n3, Value.int IntKind.i64 n4, Value.int IntKind.i64 n5, Value.int IntKind.i64 n6, Value.int IntKind.i64 n7,
 Value.int IntKind.i64 n8, Value.string s9, Value.int IntKind.i64 n10, Value.pointer none, Value.pointer none, Value.int IntKind.i64 0, Value.int IntKind.i64 0, Value.int IntKind.i64 0,
 Value.int IntKind.i64 0, Value.string ({ data := #[] } : ByteArray), Value.int IntKind.i64 0, Value.int IntKind.i64 0, Value.int IntKind.i64 0, Value.int IntKind.i64 0, Value.int IntKind.i64 0,
 Value.slice none 0 0, Value.slice none 0 0, Value.slice none 0 0, Value.nilFunc, Value.bool false, Value.bool false, Value.bool false, Value.int IntKind.i64 0, Value.int IntKind.i64 0,
 Value.int IntKind.i64 0, Value.slice none 0 0, Value.slice none 0 0, Value.slice none 0 0, Value.slice none 0 0, Value.string ({ data := #[] } : ByteArray), Value.slice none 0 0, Value.slice none 0 0,
 Value.slice none 0 0, Value.slice none 0 0, Value.bool false]
 75))
 fun v12 H13 =>
 ∃ b14,
 v12 = Value.bool b14 ∧
 ((!b14) = false →
 ((n8 != 1) = true →
 Triple Proofs.Tryz.prog 20 #[Value.string s9] H13 fun v15 H16 =>
 ∃ b17,
 v15 = Value.bool b17 ∧
 ((!b17) = true →
 Triple Proofs.Tryz.prog 21 #[Value.pointer (at0 k11)] H16 fun v18 H19 =>
 ∃ a20 k21 k22, v18 = Value.slice a20 k21 k22 ∧ Q (Value.tuple #[Value.pointer (at0 k11), Value.slice a20 k21 k22]) H19) ∧
 ((!b17) = false →
 ((n8 == 1) = true →
 Triple Proofs.Tryz.prog 22 #[Value.pointer (at0 k11)] H16 fun v23 H24 =>
 ∃ a25 k26 k27, v23 = Value.slice a25 k26 k27 ∧ Q (Value.tuple #[Value.pointer (at0 k11), Value.slice a25 k26 k27]) H24) ∧
 ((n8 == 1) = false →
 ((n8 == 2) = true →
 Triple Proofs.Tryz.prog 23 #[Value.pointer (at0 k11), Value.string s9, Value.bool true, Value.func (Fn.func 24) #[] #[]] H16 fun v28 H29 =>
 ∃ a30 k31 k32, v28 = Value.slice a30 k31 k32 ∧ Q (Value.tuple #[Value.pointer (at0 k11), Value.slice a30 k31 k32]) H29) ∧
 ((n8 == 2) = false →
 ((n8 == 3) = true →
 Triple Proofs.Tryz.prog 23 #[Value.pointer (at0 k11), Value.string s9, Value.bool true, Value.func (Fn.func 25) #[] #[]] H16
 fun v33 H34 =>
 ∃ a35 k36 k37, v33 = Value.slice a35 k36 k37 ∧ Q (Value.tuple #[Value.pointer (at0 k11), Value.slice a35 k36 k37]) H34) ∧
 ((n8 == 3) = false →
 Triple Proofs.Tryz.prog 21 #[Value.pointer (at0 k11)] H16 fun v38 H39 =>
 ∃ a40 k41 k42, v38 = Value.slice a40 k41 k42 ∧ Q (Value.tuple #[Value.pointer (at0 k11), Value.slice a40 k41 k42]) H39))))) ∧
 ((n8 != 1) = !true →
 ((n8 == 1) = true →
 Triple Proofs.Tryz.prog 22 #[Value.pointer (at0 k11)] H13 fun v43 H44 =>
 ∃ a45 k46 k47, v43 = Value.slice a45 k46 k47 ∧ Q (Value.tuple #[Value.pointer (at0 k11), Value.slice a45 k46 k47]) H44) ∧
 ((n8 == 1) = false →
 ((n8 == 2) = true →
 Triple Proofs.Tryz.prog 23 #[Value.pointer (at0 k11), Value.string s9, Value.bool true, Value.func (Fn.func 24) #[] #[]] H13 fun v48 H49 =>
 ∃ a50 k51 k52, v48 = Value.slice a50 k51 k52 ∧ Q (Value.tuple #[Value.pointer (at0 k11), Value.slice a50 k51 k52]) H49) ∧
 ((n8 == 2) = false →
 ((n8 == 3) = true →
 Triple Proofs.Tryz.prog 23 #[Value.pointer (at0 k11), Value.string s9, Value.bool true, Value.func (Fn.func 25) #[] #[]] H13 fun v53 H54 =>
 ∃ a55 k56 k57, v53 = Value.slice a55 k56 k57 ∧ Q (Value.tuple #[Value.pointer (at0 k11), Value.slice a55 k56 k57]) H54) ∧
 ((n8 == 3) = false →
 Triple Proofs.Tryz.prog 21 #[Value.pointer (at0 k11)] H13 fun v58 H59 =>
 ∃ a60 k61 k62, v58 = Value.slice a60 k61 k62 ∧ Q (Value.tuple #[Value.pointer (at0 k11), Value.slice a60 k61 k62]) H59))))) ∧
 ((!b14) = !false →
 Triple Proofs.Tryz.prog 21 #[Value.pointer (at0 k11)] H13 fun v63 H64 =>
 ∃ a65 k66 k67, v63 = Value.slice a65 k66 k67 ∧ Q (Value.tuple #[Value.pointer (at0 k11), Value.slice a65 k66 k67]) H64)) :
 Triple Go.Proofs.Tryz.prog 7 ([Value.agg #[Value.int IntKind.i64 n1, Value.int IntKind.i64 n2, Value.int IntKind.i64 n3, Value.int IntKind.i64 n4, Value.int IntKind.i64 n5, Value.int IntKind.i64 n6], Value.int IntKind.i64 n7,
 Value.agg #[Value.int IntKind.i64 n8, Value.string s9, Value.int IntKind.i64 n10]]).toArray H Q :=
 Triple.of_vc choStart.cx (by kernel_rfl) h
theorem choDone.vc (a1 : Option Addr) (H : PHeap) (Q : Value → PHeap → Prop)
 (h : (a1.isNone = false →
 Ob (a1 ≠ none) ∧
 Ob (a1 ≠ none) ∧
 ∃ b2,
 Reads H (fldA a1 41) [Value.bool b2] ∧
 ((!b2) = true → Q (Value.tuple #[Value.slice none 0 0, Value.bool false]) H) ∧
 ((!b2) = false →
 Ob (a1 ≠ none) ∧
 Ob (a1 ≠ none) ∧
 ∃ a3 k4 k5,
 Reads H (fldA a1 40) [Value.slice a3 k4 k5] ∧
 Triple Proofs.Tryz.prog 30 #[Value.slice a3 k4 k5] H fun v6 H7 => ∃ a8 k9 k10, v6 = Value.slice a8 k9 k10 ∧ Q (Value.tuple #[Value.slice a8 k9 k10, Value.bool true]) H7)) ∧
 (a1.isNone = !false → Q (Value.tuple #[Value.slice none 0 0, Value.bool false]) H)) :
 Triple Go.Proofs.Tryz.prog 9 ([Value.pointer a1]).toArray H Q :=
 Triple.of_vc choDone.cx (by kernel_rfl) h
theorem choTick.vc (a1 : Option Addr) (H : PHeap) (Q : Value → PHeap → Prop)
 (h : (a1.isNone = false →
 Ob (a1 ≠ none) ∧
 Ob (a1 ≠ none) ∧
 ∃ b2,
 Reads H (fldA a1 41) [Value.bool b2] ∧
 (b2 = true → Q (Value.slice none 0 0) H) ∧
 (b2 = false →
 Ob (a1 ≠ none) ∧
 Ob (a1 ≠ none) ∧
 ∃ a3,
 Reads H (fldA a1 10) [Value.pointer a3] ∧
 ((!a3.isNone) = true →
 Ob (a1 ≠ none) ∧
 Ob (a1 ≠ none) ∧
 ∃ a4,
 Reads H (fldA a1 10) [Value.pointer a4] ∧
 Triple Proofs.Tryz.prog 33 #[Value.pointer a4] H fun v5 H6 =>
 ∃ a7 k8 k9,
 v5 = Value.slice a7 k8 k9 ∧
 Triple Proofs.Tryz.prog 32 #[Value.pointer a1, Value.slice a7 k8 k9] H6 fun v10 H11 =>
 ∃ a12 k13 k14, v10 = Value.slice a12 k13 k14 ∧ Q (Value.slice a12 k13 k14) H11) ∧
 ((!a3.isNone) = false →
 Ob (a1 ≠ none) ∧
 Ob (a1 ≠ none) ∧
 ∃ a15,
 Reads H (fldA a1 11) [Value.pointer a15] ∧
 Ob (a1 ≠ none) ∧
 Ob (a1 ≠ none) ∧
 ∃ v16,
 Reads H (fldA a1 25) [v16] ∧
 CallY Proofs.Tryz.prog v16 #[Value.pointer a1] H fun v17 H18 =>
 ∃ a19 k20 k21,
 v17 = Value.slice a19 k20 k21 ∧
 Ob (a1 ≠ none) ∧
 Ob (a1 ≠ none) ∧
 ∃ b22,
 Reads H18 (fldA a1 41) [Value.bool b22] ∧
 (b22 = false →
 Ob (a1 ≠ none) ∧
 Ob (a1 ≠ none) ∧
 ∃ a23,
 Reads H18 (fldA a1 10) [Value.pointer a23] ∧
 ((!a23.isNone) = false →
 Ob (a1 ≠ none) ∧
 Ob (a1 ≠ none) ∧
 ∃ a24,
 Reads H18 (fldA a1 11) [Value.pointer a24] ∧
 LookV Proofs.Tryz.prog
 (binOp .neq 66 (Value.pointer a24) (Value.pointer a15))
 H18 fun v25 =>
 ∃ b26,
 v25 = Value.bool b26 ∧
 (b26 = true → Q (Value.slice a19 k20 k21) H18) ∧
 (b26 = false →
 Ob (a1 ≠ none) ∧
 Ob (a1 ≠ none) ∧
 ∃ a27,
 Reads H18 (fldA a1 11) [Value.pointer a27] ∧
 Triple Proofs.Tryz.prog 34 #[Value.pointer a27] H18 fun v28 H29 =>
 ∃ a30 k31 k32 b33,
 v28 = Value.tuple #[Value.slice a30 k31 k32, Value.bool b33] ∧
 (b33 = true →
 Triple Proofs.Tryz.prog 21 #[Value.pointer a1] H29 fun v34 H35 =>
 ∃ a36 k37 k38, v34 = Value.slice a36 k37 k38 ∧ Q (Value.slice a36 k37 k38) H35) ∧
 (b33 = false → Q (Value.slice a30 k31 k32) H29))) ∧
 ((!a23.isNone) = !false → Q (Value.slice a19 k20 k21) H18)) ∧
 (b22 = !false → Q (Value.slice a19 k20 k21) H18)))) ∧
 (a1.isNone = !false → Q (Value.slice none 0 0) H)) :
 Triple Go.Proofs.Tryz.prog 12 ([Value.pointer a1]).toArray H Q :=
 Triple.of_vc choTick.cx (by kernel_rfl) h
theorem choTake.vc (a1 : Option Addr) (n2 : Int) (n3 : Int) (n4 : Int) (n5 : Int) (s6 : ByteArray) (n7 : Int) (n8 : Int) (n9 : Int) (n10 : Int) (n11 : Int) (a12 : Option Addr) (k13 : Nat) (k14 : Nat) (a15 : Option Addr) (k16 : Nat) (k17 : Nat) (a18 : Option Addr) (k19 : Nat) (k20 : Nat) (H : PHeap) (Q : Value → PHeap → Prop)
 (h : (a1.isNone = false →
 Ob (a1 ≠ none) ∧
 Ob (a1 ≠ none) ∧
 ∃ b21,
 Reads H (fldA a1 41) [Value.bool b21] ∧
 (b21 = true → Q (Value.slice none 0 0) H) ∧
 (b21 = false →
 Ob (a1 ≠ none) ∧
 Ob (a1 ≠ none) ∧
 ∃ a22,
 Reads H (fldA a1 10) [Value.pointer a22] ∧
 ((!a22.isNone) = true →
 ∃ H23,
 Vx.Sub H23 H ∧
 Ob (a1 ≠ none) ∧
 Ob (a1 ≠ none) ∧
 ∃ a24,
 Reads H23 (fldA a1 10) [Value.pointer a24] ∧
 Triple Proofs.Tryz.prog 41
 #[Value.pointer a24,
 Value.agg
 #[Value.int IntKind.i64 n2, Value.int IntKind.i64 n3, Value.int IntKind.i64 n4, Value.int IntKind.i64 n5, Value.string s6, Value.int IntKind.i64 n7,
 Value.int IntKind.i64 n8, Value.int IntKind.i64 n9, Value.int IntKind.i64 n10, Value.int IntKind.i64 n11, Value.slice a12 k13 k14,
 Value.slice a15 k16 k17, Value.slice a18 k19 k20]]
 H fun v25 H26 =>
 ∃ a27 k28 k29,
 v25 = Value.slice a27 k28 k29 ∧
 Triple Proofs.Tryz.prog 32 #[Value.pointer a1, Value.slice a27 k28 k29] H26 fun v30 H31 =>
 ∃ a32 k33 k34, v30 = Value.slice a32 k33 k34 ∧ Q (Value.slice a32 k33 k34) H31) ∧
 ((!a22.isNone) = false →
 Triple Proofs.Tryz.prog 42
 #[Value.pointer a1,
 Value.agg
 #[Value.int IntKind.i64 n2, Value.int IntKind.i64 n3, Value.int IntKind.i64 n4, Value.int IntKind.i64 n5, Value.string s6, Value.int IntKind.i64 n7,
 Value.int IntKind.i64 n8, Value.int IntKind.i64 n9, Value.int IntKind.i64 n10, Value.int IntKind.i64 n11, Value.slice a12 k13 k14, Value.slice a15 k16 k17,
 Value.slice a18 k19 k20]]
 H fun v35 H36 =>
 ∃ b37,
 v35 = Value.bool b37 ∧
 (b37 = true → Triple Proofs.Tryz.prog 21 #[Value.pointer a1] H36 fun v38 H39 => ∃ a40 k41 k42, v38 = Value.slice a40 k41 k42 ∧ Q (Value.slice a40 k41 k42) H39) ∧
 (b37 = false →
 ∃ H43,
 Vx.Sub H43 H36 ∧
 Triple Proofs.Tryz.prog 43
 #[Value.pointer a1,
 Value.agg
 #[Value.int IntKind.i64 n2, Value.int IntKind.i64 n3, Value.int IntKind.i64 n4, Value.int IntKind.i64 n5, Value.string s6, Value.int IntKind.i64 n7,
 Value.int IntKind.i64 n8, Value.int IntKind.i64 n9, Value.int IntKind.i64 n10, Value.int IntKind.i64 n11, Value.slice a12 k13 k14,
 Value.slice a15 k16 k17, Value.slice a18 k19 k20]]
 H36 fun v44 H45 =>
 ∃ b46,
 v44 = Value.bool b46 ∧
 Vx.Sub H43 H45 ∧
 ((!b46) = false →
 Ob (a1 ≠ none) ∧
 Ob (a1 ≠ none) ∧
 ∃ a47,
 Reads H43 (fldA a1 11) [Value.pointer a47] ∧
 Triple Proofs.Tryz.prog 44
 #[Value.pointer a47,
 Value.agg
 #[Value.int IntKind.i64 n2, Value.int IntKind.i64 n3, Value.int IntKind.i64 n4, Value.int IntKind.i64 n5, Value.string s6,
 Value.int IntKind.i64 n7, Value.int IntKind.i64 n8, Value.int IntKind.i64 n9, Value.int IntKind.i64 n10,
 Value.int IntKind.i64 n11, Value.slice a12 k13 k14, Value.slice a15 k16 k17, Value.slice a18 k19 k20]]
 H45 fun v48 H49 =>
 ∃ b50,
 v48 = Value.bool b50 ∧
 Vx.Sub H43 H49 ∧
 ((!b50) = false →
 Ob (a1 ≠ none) ∧
 Ob (a1 ≠ none) ∧
 ∃ a51,
 Reads H43 (fldA a1 11) [Value.pointer a51] ∧
 Triple Proofs.Tryz.prog 45 #[Value.pointer a51] H49 fun v52 H53 =>
 ∃ b54,
 v52 = Value.bool b54 ∧
 ((!b54) = true → Q (Value.slice none 0 0) H53) ∧
 ((!b54) = false →
 Ob (a1 ≠ none) ∧
 Ob (a1 ≠ none) ∧
 ∃ v55,
 Reads H53 (fldA a1 25) [v55] ∧
 CallY Proofs.Tryz.prog v55 #[Value.pointer a1] H53 fun v56 H57 =>
 ∃ a58 k59 k60, v56 = Value.slice a58 k59 k60 ∧ Q (Value.slice a58 k59 k60) H57)) ∧
 ((!b50) = !false → Q (Value.slice none 0 0) H49)) ∧
 ((!b46) = !false → Q (Value.slice none 0 0) H45))))) ∧
 (a1.isNone = !false → Q (Value.slice none 0 0) H)) :
 Triple Go.Proofs.Tryz.prog 14 ([Value.pointer a1,
 Value.agg
 #[Value.int IntKind.i64 n2, Value.int IntKind.i64 n3, Value.int IntKind.i64 n4, Value.int IntKind.i64 n5, Value.string s6, Value.int IntKind.i64 n7, Value.int IntKind.i64 n8,
 Value.int IntKind.i64 n9, Value.int IntKind.i64 n10, Value.int IntKind.i64 n11, Value.slice a12 k13 k14, Value.slice a15 k16 k17, Value.slice a18 k19 k20]]).toArray H Q :=
 Triple.of_vc choTake.cx (by kernel_rfl) h
theorem choEnd.vc (a1 : Option Addr) (H : PHeap) (Q : Value → PHeap → Prop)
 (h : Ob (a1 ≠ none) ∧ Ob (a1 ≠ none) ∧ ∃ H2, Writes H H2 (fldA a1 41) [Value.bool true] ∧ Q (Value.slice none 0 0) H2) :
 Triple Go.Proofs.Tryz.prog 21 ([Value.pointer a1]).toArray H Q :=
 Triple.of_vc choEnd.cx (by kernel_rfl) h
theorem choList.vc (a1 : Option Addr) (H : PHeap) (Q : Value → PHeap → Prop)
 (h : Ob (a1 ≠ none) ∧
 Ob (a1 ≠ none) ∧
 Triple Proofs.Tryz.prog 55 #[Value.pointer (fldA a1 35)] H fun v2 H3 =>
 ∃ s4,
 v2 = Value.string s4 ∧
 Triple Proofs.Tryz.prog 54
 #[Value.pointer a1,
 Value.agg
 #[Value.int IntKind.i64 6, Value.int IntKind.i64 0, Value.int IntKind.i64 0, Value.int IntKind.i64 0, Value.string s4, Value.int IntKind.i64 0, Value.int IntKind.i64 0,
 Value.int IntKind.i64 0, Value.int IntKind.i64 0, Value.int IntKind.i64 0, Value.slice none 0 0, Value.slice none 0 0, Value.slice none 0 0],
 Value.func (Fn.func 56) #[] #[]]
 H3 fun v5 H6 => ∃ a7 k8 k9, v5 = Value.slice a7 k8 k9 ∧ Q (Value.slice a7 k8 k9) H6) :
 Triple Go.Proofs.Tryz.prog 22 ([Value.pointer a1]).toArray H Q :=
 Triple.of_vc choList.cx (by kernel_rfl) h
theorem choAgree.vc (a1 : Option Addr) (s2 : ByteArray) (b3 : Bool) (v4 : Value) (H : PHeap) (Q : Value → PHeap → Prop)
 (h : ∃ H5,
 Vx.Sub H5 H ∧
 Ob (a1 ≠ none) ∧
 Ob (a1 ≠ none) ∧
 ∃ n6 n7 n8 n9 n10 n11,
 Reads H5 (fldA a1 0) [Value.int IntKind.i64 n6, Value.int IntKind.i64 n7, Value.int IntKind.i64 n8, Value.int IntKind.i64 n9, Value.int IntKind.i64 n10, Value.int IntKind.i64 n11] ∧
 Ob (a1 ≠ none) ∧
 Ob (a1 ≠ none) ∧
 ∃ n12,
 Reads H5 (fldA a1 6) [Value.int IntKind.i64 n12] ∧
 Triple Proofs.Tryz.prog 57
 #[Value.agg #[Value.int IntKind.i64 n6, Value.int IntKind.i64 n7, Value.int IntKind.i64 n8, Value.int IntKind.i64 n9, Value.int IntKind.i64 n10, Value.int IntKind.i64 n11],
 Value.int IntKind.i64 n12, Value.string s2, Value.bool b3]
 H fun v13 H14 =>
 ∃ a15 a16 k17 k18,
 v13 = Value.tuple #[Value.pointer a15, Value.slice a16 k17 k18] ∧
 Ob (a1 ≠ none) ∧
 Ob (a1 ≠ none) ∧
 ∃ H19,
 Writes H14 H19 (fldA a1 10) [Value.pointer a15] ∧
 Ob (a1 ≠ none) ∧
 Ob (a1 ≠ none) ∧
 ∃ H20,
 Writes H19 H20 (fldA a1 11) [Value.pointer none] ∧
 Ob (a1 ≠ none) ∧ Ob (a1 ≠ none) ∧ Ob (okCell v4 = true) ∧ ∃ H21, Writes H20 H21 (fldA a1 25) [v4] ∧ Q (Value.slice a16 k17 k18) H21) :
 Triple Go.Proofs.Tryz.prog 23 ([Value.pointer a1, Value.string s2, Value.bool b3, v4]).toArray H Q :=
 Triple.of_vc choAgree.cx (by kernel_rfl) h
theorem choMend.vc (a1 : Option Addr) (H : PHeap) (Q : Value → PHeap → Prop)
 (h : Ob (a1 ≠ none) ∧
 Ob (a1 ≠ none) ∧
 Ob (fldA a1 26 ≠ none) ∧
 ∃ b2 n3 n4 n5,
 Reads H (fldA (fldA a1 26) 2) [Value.bool b2, Value.int IntKind.i64 n3, Value.int IntKind.i64 n4, Value.int IntKind.i64 n5] ∧
 ∃ H6,
 Vx.Sub H6 H ∧
 Ob (a1 ≠ none) ∧
 Ob (a1 ≠ none) ∧
 ∃ n7 n8 n9 n10 n11 n12,
 Reads H6 (fldA a1 0)
 [Value.int IntKind.i64 n7, Value.int IntKind.i64 n8, Value.int IntKind.i64 n9, Value.int IntKind.i64 n10, Value.int IntKind.i64 n11, Value.int IntKind.i64 n12] ∧
 Ob (a1 ≠ none) ∧
 Ob (a1 ≠ none) ∧
 Ob (fldA a1 26 ≠ none) ∧
 ∃ a13 k14 k15,
 Reads H6 (fldA (fldA a1 26) 6) [Value.slice a13 k14 k15] ∧
 Ob (a1 ≠ none) ∧
 Ob (a1 ≠ none) ∧
 Ob (fldA a1 7 ≠ none) ∧
 ∃ n16,
 Reads H6 (fldA (fldA a1 7) 2) [Value.int IntKind.i64 n16] ∧
 Triple Proofs.Tryz.prog 58
 #[Value.agg
 #[Value.int IntKind.i64 n7, Value.int IntKind.i64 n8, Value.int IntKind.i64 n9, Value.int IntKind.i64 n10, Value.int IntKind.i64 n11,
 Value.int IntKind.i64 n12],
 Value.slice a13 k14 k15, Value.int IntKind.i64 n16]
 H fun v17 H18 =>
 ∃ a19 k20 k21 b22,
 v17 = Value.tuple #[Value.slice a19 k20 k21, Value.bool b22] ∧
 ∃ H23,
 Vx.Sub H23 H18 ∧
 ((!b2) = false →
 ((!b22) = false →
 Ob (a1 ≠ none) ∧
 Ob (a1 ≠ none) ∧
 Ob (fldA a1 26 ≠ none) ∧
 ∃ a24 k25 k26,
 Reads H23 (fldA (fldA a1 26) 6) [Value.slice a24 k25 k26] ∧
 Ob (a1 ≠ none) ∧
 Ob (a1 ≠ none) ∧
 Ob (fldA a1 7 ≠ none) ∧
 ∃ n27,
 Reads H23 (fldA (fldA a1 7) 2) [Value.int IntKind.i64 n27] ∧
 Triple Proofs.Tryz.prog 59 #[Value.slice a24 k25 k26, Value.int IntKind.i64 n27] H18 fun v28 H29 =>
 ∃ b30,
 v28 = Value.bool b30 ∧
 (b30 = true →
 Triple Proofs.Tryz.prog 21 #[Value.pointer a1] H29 fun v31 H32 =>
 ∃ a33 k34 k35, v31 = Value.slice a33 k34 k35 ∧ Q (Value.slice a33 k34 k35) H32) ∧
 (b30 = false →
 ∃ H36,
 Vx.Sub H36 H29 ∧
 Ob (a1 ≠ none) ∧
 Ob (a1 ≠ none) ∧
 Ob (fldA a1 7 ≠ none) ∧
 ∃ s37,
 Reads H36 (fldA (fldA a1 7) 1) [Value.string s37] ∧
 Ob (a1 ≠ none) ∧
 Ob (a1 ≠ none) ∧
 Ob (fldA a1 7 ≠ none) ∧
 ∃ n38,
 Reads H36 (fldA (fldA a1 7) 2) [Value.int IntKind.i64 n38] ∧
 ∀ (k39 : Nat),
 H29 k39 = none →
 Vx.Sub H36
 (H29.upd k39
 (Obj.cells
 #[Value.int IntKind.i64 0, Value.int IntKind.i64 0,
 Value.int IntKind.i64 0, Value.int IntKind.i64 0,
 Value.string ({ data := #[] } : ByteArray), Value.int IntKind.i64 0,
 Value.int IntKind.i64 0, Value.int IntKind.i64 0,
 Value.int IntKind.i64 0, Value.int IntKind.i64 0, Value.slice none 0 0,
 Value.slice none 0 0, Value.slice none 0 0]
 52)) ∧
 ∃ H40,
 Writes
 (H29.upd k39
 (Obj.cells
 #[Value.int IntKind.i64 0, Value.int IntKind.i64 0,
 Value.int IntKind.i64 0, Value.int IntKind.i64 0,
 Value.string ({ data := #[] } : ByteArray), Value.int IntKind.i64 0,
 Value.int IntKind.i64 0, Value.int IntKind.i64 0,
 Value.int IntKind.i64 0, Value.int IntKind.i64 0,
 Value.slice none 0 0, Value.slice none 0 0, Value.slice none 0 0]
 52))
 H40 (at0 k39)
 [Value.int IntKind.i64 10, Value.int IntKind.i64 0,
 Value.int IntKind.i64 0, Value.int IntKind.i64 0, Value.string s37,
 Value.int IntKind.i64 n3, Value.int IntKind.i64 n4,
 Value.int IntKind.i64 n38, Value.int IntKind.i64 n5,
 Value.int IntKind.i64 0, Value.slice a19 k20 k21, Value.slice none 0 0,
 Value.slice none 0 0] ∧
 ∃ H41,
 Vx.Sub H41 H40 ∧
 ∃ n42 n43 n44 n45 s46 n47 n48 n49 n50 n51 a52 k53 k54 a55 k56 k57 a58
 k59 k60,
 Reads H41 (at0 k39)
 [Value.int IntKind.i64 n42, Value.int IntKind.i64 n43,
 Value.int IntKind.i64 n44, Value.int IntKind.i64 n45,
 Value.string s46, Value.int IntKind.i64 n47,
 Value.int IntKind.i64 n48, Value.int IntKind.i64 n49,
 Value.int IntKind.i64 n50, Value.int IntKind.i64 n51,
 Value.slice a52 k53 k54, Value.slice a55 k56 k57,
 Value.slice a58 k59 k60] ∧
 Ob (a1 ≠ none) ∧
 Ob (a1 ≠ none) ∧
 Ob (fldA a1 7 ≠ none) ∧
 ∃ n61,
 Reads H41 (fldA (fldA a1 7) 2) [Value.int IntKind.i64 n61] ∧
 Ob (a1 ≠ none) ∧
 Ob (a1 ≠ none) ∧
 Ob (fldA a1 7 ≠ none) ∧
 ∃ n62,
 Reads H41 (fldA (fldA a1 7) 2)
 [Value.int IntKind.i64 n62] ∧
 ∀ (k63 : Nat),
 H40 k63 = none →
 Vx.Sub H41
 (H40.upd k63
 (Obj.cells
 #[Value.int IntKind.i64 n61] 3)) ∧
 EvV Proofs.Tryz.prog
 (Builtin.append_ #[42, 42] 42
 #[Value.slice a19 k20 k21,
 Value.slice
 (at0 k63)
 1 1])
 (H40.upd k63
 (Obj.cells
 #[Value.int IntKind.i64 n61] 3))
 fun v64 H65 =>
 ∃ a66 k67 k68,
 v64 = Value.slice a66 k67 k68 ∧
 Vx.Sub H41 H65 ∧
 Triple Proofs.Tryz.prog 61
 #[Value.slice a66 k67 k68,
 Value.slice none 0 0]
 H65 fun v69 H70 =>
 ∃ a71 k72 k73,
 v69 =
 Value.slice a71 k72 k73 ∧
 Vx.Sub H41 H70 ∧
 ∀ (k74 : Nat),
 H70 k74 = none →
 Vx.Sub H41
 (H70.upd k74
 (Obj.cells
 #[Value.int
 IntKind.i64
 n62]
 3)) ∧
 Triple
 Proofs.Tryz.prog
 60
 #[Value.pointer
 a1,
 Value.agg
 #[Value.int
 IntKind.i64
 n42,
 Value.int
 IntKind.i64
 n43,
 Value.int
 IntKind.i64
 n44,
 Value.int
 IntKind.i64
 n45,
 Value.string
 s46,
 Value.int
 IntKind.i64
 n47,
 Value.int
 IntKind.i64
 n48,
 Value.int
 IntKind.i64
 n49,
 Value.int
 IntKind.i64
 n50,
 Value.int
 IntKind.i64
 n51,
 Value.slice
 a52 k53
 k54,
 Value.slice
 a55 k56
 k57,
 Value.slice
 a58 k59
 k60],
 Value.slice a71
 k72 k73,
 Value.slice
 (at0 k74)
 1 1,
 Value.func
 (Fn.func 62)
 #[] #[]]
 (H70.upd k74
 (Obj.cells
 #[Value.int
 IntKind.i64
 n62]
 3))
 fun v75 H76 =>
 ∃ a77 k78 k79,
 v75 =
 Value.slice
 a77 k78
 k79 ∧
 Q
 (Value.slice
 a77 k78
 k79)
 H76)) ∧
 ((!b22) = !false →
 Triple Proofs.Tryz.prog 21 #[Value.pointer a1] H18 fun v80 H81 =>
 ∃ a82 k83 k84, v80 = Value.slice a82 k83 k84 ∧ Q (Value.slice a82 k83 k84) H81)) ∧
 ((!b2) = !false →
 Triple Proofs.Tryz.prog 21 #[Value.pointer a1] H18 fun v85 H86 =>
 ∃ a87 k88 k89, v85 = Value.slice a87 k88 k89 ∧ Q (Value.slice a87 k88 k89) H86)) :
 Triple Go.Proofs.Tryz.prog 24 ([Value.pointer a1]).toArray H Q :=
 Triple.of_vc choMend.cx (by kernel_rfl) h
theorem choPurge.vc (a1 : Option Addr) (H : PHeap) (Q : Value → PHeap → Prop)
 (h : ∃ H2,
 Vx.Sub H2 H ∧
 Ob (a1 ≠ none) ∧
 Ob (a1 ≠ none) ∧
 Ob (fldA a1 26 ≠ none) ∧
 Ob (fldA (fldA a1 26) 2 ≠ none) ∧
 ∃ b3,
 Reads H2 (fldA (fldA (fldA a1 26) 2) 0) [Value.bool b3] ∧
 (b3 = false →
 Ob (a1 ≠ none) ∧
 Ob (a1 ≠ none) ∧
 Ob (fldA a1 26 ≠ none) ∧
 ∃ a4 k5 k6,
 Reads H2 (fldA (fldA a1 26) 7) [Value.slice a4 k5 k6] ∧
 Ob (a1 ≠ none) ∧
 Ob (a1 ≠ none) ∧
 Ob (fldA a1 0 ≠ none) ∧
 ∃ n7,
 Reads H2 (fldA (fldA a1 0) 0) [Value.int IntKind.i64 n7] ∧
 (decide ((↑k5 : Int) < n7) = true →
 Triple Proofs.Tryz.prog 21 #[Value.pointer a1] H fun v8 H9 => ∃ a10 k11 k12, v8 = Value.slice a10 k11 k12 ∧ Q (Value.slice a10 k11 k12) H9) ∧
 (decide ((↑k5 : Int) < n7) = false →
 Ob (a1 ≠ none) ∧
 Ob (a1 ≠ none) ∧
 Ob (fldA a1 7 ≠ none) ∧
 ∃ s13,
 Reads H (fldA (fldA a1 7) 1) [Value.string s13] ∧
 Triple Proofs.Tryz.prog 54
 #[Value.pointer a1,
 Value.agg
 #[Value.int IntKind.i64 8, Value.int IntKind.i64 0, Value.int IntKind.i64 0, Value.int IntKind.i64 0, Value.string s13,
 Value.int IntKind.i64 0, Value.int IntKind.i64 0, Value.int IntKind.i64 0, Value.int IntKind.i64 0, Value.int IntKind.i64 0,
 Value.slice none 0 0, Value.slice none 0 0, Value.slice none 0 0],
 Value.func (Fn.func 62) #[] #[]]
 H fun v14 H15 => ∃ a16 k17 k18, v14 = Value.slice a16 k17 k18 ∧ Q (Value.slice a16 k17 k18) H15)) ∧
 (b3 = !false → Triple Proofs.Tryz.prog 21 #[Value.pointer a1] H fun v19 H20 => ∃ a21 k22 k23, v19 = Value.slice a21 k22 k23 ∧ Q (Value.slice a21 k22 k23) H20)) :
 Triple Go.Proofs.Tryz.prog 25 ([Value.pointer a1]).toArray H Q :=
 Triple.of_vc choPurge.cx (by kernel_rfl) h
theorem choGoes.vc (a1 : Option Addr) (a2 : Option Addr) (k3 : Nat) (k4 : Nat) (H : PHeap) (Q : Value → PHeap → Prop)
 (h : Ob (a1 ≠ none) ∧
 Ob (a1 ≠ none) ∧
 ∃ a5,
 Reads H (fldA a1 10) [Value.pointer a5] ∧
 Triple Proofs.Tryz.prog 68 #[Value.pointer a5] H fun v6 H7 =>
 ∃ b8 b9 b10 n11 n12 n13 a14 k15 k16 a17 k18 k19 a20 k21 k22 b23,
 v6 =
 Value.tuple
 #[Value.agg
 #[Value.bool b8, Value.bool b9, Value.bool b10, Value.int IntKind.i64 n11, Value.int IntKind.i64 n12, Value.int IntKind.i64 n13, Value.slice a14 k15 k16, Value.slice a17 k18 k19,
 Value.slice a20 k21 k22],
 Value.bool b23] ∧
 ((!b23) = true → Q (Value.slice a2 k3 k4) H7) ∧
 ((!b23) = false →
 Ob (a1 ≠ none) ∧
 Ob (a1 ≠ none) ∧
 ∃ H24,
 Writes H7 H24 (fldA a1 26)
 [Value.bool b8, Value.bool b9, Value.bool b10, Value.int IntKind.i64 n11, Value.int IntKind.i64 n12, Value.int IntKind.i64 n13, Value.slice a14 k15 k16,
 Value.slice a17 k18 k19, Value.slice a20 k21 k22] ∧
 ((!b8) = true → Triple Proofs.Tryz.prog 21 #[Value.pointer a1] H24 fun v25 H26 => ∃ a27 k28 k29, v25 = Value.slice a27 k28 k29 ∧ Q (Value.slice a2 k3 k4) H26) ∧
 ((!b8) = false →
 Ob (a1 ≠ none) ∧
 Ob (a1 ≠ none) ∧
 ∃ v30,
 Reads H24 (fldA a1 25) [v30] ∧
 CallY Proofs.Tryz.prog v30 #[Value.pointer a1] H24 fun v31 H32 =>
 ∃ a33 k34 k35,
 v31 = Value.slice a33 k34 k35 ∧
 EvV Proofs.Tryz.prog (Builtin.append_ #[28, 28] 28 #[Value.slice a2 k3 k4, Value.slice a33 k34 k35]) H32 fun v36 H37 =>
 ∃ a38 k39 k40, v36 = Value.slice a38 k39 k40 ∧ Q (Value.slice a38 k39 k40) H37))) :
 Triple Go.Proofs.Tryz.prog 32 ([Value.pointer a1, Value.slice a2 k3 k4]).toArray H Q :=
 Triple.of_vc choGoes.cx (by kernel_rfl) h
theorem choRefuses.vc (a1 : Option Addr) (n2 : Int) (n3 : Int) (n4 : Int) (n5 : Int) (s6 : ByteArray) (n7 : Int) (n8 : Int) (n9 : Int) (n10 : Int) (n11 : Int) (a12 : Option Addr) (k13 : Nat) (k14 : Nat) (a15 : Option Addr) (k16 : Nat) (k17 : Nat) (a18 : Option Addr) (k19 : Nat) (k20 : Nat) (H : PHeap) (Q : Value → PHeap → Prop)
 (h : ∃ H21,
 Vx.Sub H21 H ∧
 Ob (a1 ≠ none) ∧
 Ob (a1 ≠ none) ∧
 ∃ n22,
 Reads H21 (fldA a1 6) [Value.int IntKind.i64 n22] ∧
 ((n5 == n22) = true →
 Ob (a1 ≠ none) ∧
 Ob (a1 ≠ none) ∧
 Ob (fldA a1 12 ≠ none) ∧
 ∃ s23,
 Reads H21 (fldA (fldA a1 12) 4) [Value.string s23] ∧
 (eqS s6 s23 = true →
 Ob (a1 ≠ none) ∧
 Ob (a1 ≠ none) ∧
 Ob (fldA a1 12 ≠ none) ∧
 ∃ n24,
 Reads H21 (fldA (fldA a1 12) 0) [Value.int IntKind.i64 n24] ∧
 ∃ H25,
 Vx.Sub H25 H ∧
 ((bif n2 == 16 then true else bif n2 == 19 then true else n2 == 24) = true →
 ((n24 == 10) = true →
 ((n11 == 10) = true →
 Ob (a1 ≠ none) ∧
 Ob (a1 ≠ none) ∧
 Ob (fldA a1 12 ≠ none) ∧
 ∃ a26 k27 k28,
 Reads H25 (fldA (fldA a1 12) 10) [Value.slice a26 k27 k28] ∧
 Triple Proofs.Tryz.prog 59 #[Value.slice a26 k27 k28, Value.int IntKind.i64 n3] H fun v29 H30 =>
 ∃ b31,
 v29 = Value.bool b31 ∧
 Vx.Sub H25 H30 ∧
 (b31 = false →
 Ob (a1 ≠ none) ∧
 Ob (a1 ≠ none) ∧
 Ob (fldA a1 7 ≠ none) ∧
 ∃ n32, Reads H25 (fldA (fldA a1 7) 2) [Value.int IntKind.i64 n32] ∧ Q (Value.bool (n3 == n32)) H30) ∧
 (b31 = !false → Q (Value.bool true) H30)) ∧
 ((n11 == 10) = !true → Q (Value.bool false) H)) ∧
 ((n24 == 10) = !true → Q (Value.bool false) H)) ∧
 ((bif n2 == 16 then true else bif n2 == 19 then true else n2 == 24) = !true → Q (Value.bool false) H)) ∧
 (eqS s6 s23 = !true → ∃ H33, Vx.Sub H33 H ∧ Q (Value.bool (bif bif n2 == 16 then true else bif n2 == 19 then true else n2 == 24 then false else false)) H)) ∧
 ((n5 == n22) = !true → ∃ H34, Vx.Sub H34 H ∧ Q (Value.bool (bif bif n2 == 16 then true else bif n2 == 19 then true else n2 == 24 then false else false)) H)) :
 Triple Go.Proofs.Tryz.prog 42 ([Value.pointer a1,
 Value.agg
 #[Value.int IntKind.i64 n2, Value.int IntKind.i64 n3, Value.int IntKind.i64 n4, Value.int IntKind.i64 n5, Value.string s6, Value.int IntKind.i64 n7, Value.int IntKind.i64 n8,
 Value.int IntKind.i64 n9, Value.int IntKind.i64 n10, Value.int IntKind.i64 n11, Value.slice a12 k13 k14, Value.slice a15 k16 k17, Value.slice a18 k19 k20]]).toArray H Q :=
 Triple.of_vc choRefuses.cx (by kernel_rfl) h
theorem choTakes.vc (a1 : Option Addr) (n2 : Int) (n3 : Int) (n4 : Int) (n5 : Int) (s6 : ByteArray) (n7 : Int) (n8 : Int) (n9 : Int) (n10 : Int) (n11 : Int) (a12 : Option Addr) (k13 : Nat) (k14 : Nat) (a15 : Option Addr) (k16 : Nat) (k17 : Nat) (a18 : Option Addr) (k19 : Nat) (k20 : Nat) (H : PHeap) (Q : Value → PHeap → Prop)
 (h : ∃ H21,
 Vx.Sub H21 H ∧
 Ob (a1 ≠ none) ∧
 Ob (a1 ≠ none) ∧
 ∃ n22,
 Reads H21 (fldA a1 6) [Value.int IntKind.i64 n22] ∧
 ((n5 != n22) = false →
 Ob (a1 ≠ none) ∧
 Ob (a1 ≠ none) ∧
 Ob (fldA a1 12 ≠ none) ∧
 ∃ s23,
 Reads H21 (fldA (fldA a1 12) 4) [Value.string s23] ∧
 ((!eqS s6 s23) = true → Q (Value.bool false) H) ∧
 ((!eqS s6 s23) = false →
 Ob (a1 ≠ none) ∧
 Ob (a1 ≠ none) ∧
 Ob (fldA a1 12 ≠ none) ∧
 ∃ n24,
 Reads H (fldA (fldA a1 12) 0) [Value.int IntKind.i64 n24] ∧
 ((n24 == 6) = true → Q (Value.bool (n2 == 20)) H) ∧
 ((n24 == 6) = false →
 ((n24 == 7) = true → Q (Value.bool (n2 == 21)) H) ∧
 ((n24 == 7) = false →
 ((n24 == 10) = true → Q (Value.bool (n2 == 25)) H) ∧
 ((n24 == 10) = false → Q (Value.bool (bif n2 == 22 then true else bif n2 == 19 then n11 == 8 else false)) H))))) ∧
 ((n5 != n22) = !false → Q (Value.bool false) H)) :
 Triple Go.Proofs.Tryz.prog 43 ([Value.pointer a1,
 Value.agg
 #[Value.int IntKind.i64 n2, Value.int IntKind.i64 n3, Value.int IntKind.i64 n4, Value.int IntKind.i64 n5, Value.string s6, Value.int IntKind.i64 n7, Value.int IntKind.i64 n8,
 Value.int IntKind.i64 n9, Value.int IntKind.i64 n10, Value.int IntKind.i64 n11, Value.slice a12 k13 k14, Value.slice a15 k16 k17, Value.slice a18 k19 k20]]).toArray H Q :=
 Triple.of_vc choTakes.cx (by kernel_rfl) h
theorem choAll.vc (a1 : Option Addr) (n2 : Int) (n3 : Int) (n4 : Int) (n5 : Int) (s6 : ByteArray) (n7 : Int) (n8 : Int) (n9 : Int) (n10 : Int) (n11 : Int) (a12 : Option Addr) (k13 : Nat) (k14 : Nat) (a15 : Option Addr) (k16 : Nat) (k17 : Nat) (a18 : Option Addr) (k19 : Nat) (k20 : Nat) (v21 : Value) (H : PHeap) (Q : Value → PHeap → Prop)
 (h : ∃ H22,
 Vx.Sub H22 H ∧
 Ob (a1 ≠ none) ∧
 Ob (a1 ≠ none) ∧
 ∃ n23 n24 n25 n26 n27 n28,
 Reads H22 (fldA a1 0) [Value.int IntKind.i64 n23, Value.int IntKind.i64 n24, Value.int IntKind.i64 n25, Value.int IntKind.i64 n26, Value.int IntKind.i64 n27, Value.int IntKind.i64 n28] ∧
 Ob (a1 ≠ none) ∧
 Ob (a1 ≠ none) ∧
 ∃ n29 n30 n31 n32 n33 n34,
 Reads H22 (fldA a1 0)
 [Value.int IntKind.i64 n29, Value.int IntKind.i64 n30, Value.int IntKind.i64 n31, Value.int IntKind.i64 n32, Value.int IntKind.i64 n33, Value.int IntKind.i64 n34] ∧
 Triple Proofs.Tryz.prog 85
 #[Value.agg #[Value.int IntKind.i64 n23, Value.int IntKind.i64 n24, Value.int IntKind.i64 n25, Value.int IntKind.i64 n26, Value.int IntKind.i64 n27, Value.int IntKind.i64 n28]] H
 fun v35 H36 =>
 ∃ a37 k38 k39,
 v35 = Value.slice a37 k38 k39 ∧
 Vx.Sub H22 H36 ∧
 Triple Proofs.Tryz.prog 85
 #[Value.agg
 #[Value.int IntKind.i64 n29, Value.int IntKind.i64 n30, Value.int IntKind.i64 n31, Value.int IntKind.i64 n32, Value.int IntKind.i64 n33, Value.int IntKind.i64 n34]]
 H36 fun v40 H41 =>
 ∃ a42 k43 k44,
 v40 = Value.slice a42 k43 k44 ∧
 Vx.Sub H22 H41 ∧
 Triple Proofs.Tryz.prog 60
 #[Value.pointer a1,
 Value.agg
 #[Value.int IntKind.i64 n2, Value.int IntKind.i64 n3, Value.int IntKind.i64 n4, Value.int IntKind.i64 n5, Value.string s6, Value.int IntKind.i64 n7,
 Value.int IntKind.i64 n8, Value.int IntKind.i64 n9, Value.int IntKind.i64 n10, Value.int IntKind.i64 n11, Value.slice a12 k13 k14, Value.slice a15 k16 k17,
 Value.slice a18 k19 k20],
 Value.slice a37 k38 k39, Value.slice a42 k43 k44, v21]
 H41 fun v45 H46 => ∃ a47 k48 k49, v45 = Value.slice a47 k48 k49 ∧ Q (Value.slice a47 k48 k49) H46) :
 Triple Go.Proofs.Tryz.prog 54 ([Value.pointer a1,
 Value.agg
 #[Value.int IntKind.i64 n2, Value.int IntKind.i64 n3, Value.int IntKind.i64 n4, Value.int IntKind.i64 n5, Value.string s6, Value.int IntKind.i64 n7, Value.int IntKind.i64 n8,
 Value.int IntKind.i64 n9, Value.int IntKind.i64 n10, Value.int IntKind.i64 n11, Value.slice a12 k13 k14, Value.slice a15 k16 k17, Value.slice a18 k19 k20],
 v21]).toArray H Q :=
 Triple.of_vc choAll.cx (by kernel_rfl) h
theorem choListed.vc (a1 : Option Addr) (H : PHeap) (Q : Value → PHeap → Prop)
 (h : Ob (a1 ≠ none) ∧
 Ob (a1 ≠ none) ∧
 ∃ a2,
 Reads H (fldA a1 11) [Value.pointer a2] ∧
 Triple Proofs.Tryz.prog 86 #[Value.pointer a2] H fun v3 H4 =>
 ∃ a5 k6 k7,
 v3 = Value.slice a5 k6 k7 ∧
 ∃ H8,
 Vx.Sub H8 H4 ∧
 Ob (a1 ≠ none) ∧
 Ob (a1 ≠ none) ∧
 Ob (a1 ≠ none) ∧
 Ob (a1 ≠ none) ∧
 ∃ n9 n10 n11 n12 n13 n14,
 Reads H8 (fldA a1 0)
 [Value.int IntKind.i64 n9, Value.int IntKind.i64 n10, Value.int IntKind.i64 n11, Value.int IntKind.i64 n12, Value.int IntKind.i64 n13, Value.int IntKind.i64 n14] ∧
 Triple Proofs.Tryz.prog 87
 #[Value.pointer (fldA a1 35),
 Value.agg
 #[Value.int IntKind.i64 n9, Value.int IntKind.i64 n10, Value.int IntKind.i64 n11, Value.int IntKind.i64 n12, Value.int IntKind.i64 n13, Value.int IntKind.i64 n14],
 Value.slice a5 k6 k7]
 H4 fun v15 H16 =>
 ∃ b17,
 v15 = Value.bool b17 ∧
 ((!b17) = true → Triple Proofs.Tryz.prog 62 #[Value.pointer a1] H16 fun v18 H19 => ∃ a20 k21 k22, v18 = Value.slice a20 k21 k22 ∧ Q (Value.slice a20 k21 k22) H19) ∧
 ((!b17) = false →
 Ob (a1 ≠ none) ∧
 Ob (a1 ≠ none) ∧
 Triple Proofs.Tryz.prog 88 #[Value.pointer (fldA a1 35), Value.slice a5 k6 k7] H16 fun v23 H24 =>
 ∃ b25,
 v23 = Value.bool b25 ∧
 ((!b25) = true →
 Triple Proofs.Tryz.prog 22 #[Value.pointer a1] H24 fun v26 H27 =>
 ∃ a28 k29 k30, v26 = Value.slice a28 k29 k30 ∧ Q (Value.slice a28 k29 k30) H27) ∧
 ((!b25) = false →
 ∃ H31,
 Vx.Sub H31 H24 ∧
 Ob (a1 ≠ none) ∧
 Ob (a1 ≠ none) ∧
 Ob (a1 ≠ none) ∧
 Ob (a1 ≠ none) ∧
 Triple Proofs.Tryz.prog 89 #[Value.pointer (fldA a1 35)] H24 fun v32 H33 =>
 ∃ a34 k35 k36,
 v32 = Value.slice a34 k35 k36 ∧
 Triple Proofs.Tryz.prog 90 #[Value.pointer (fldA a1 35)] H33 fun v37 H38 =>
 ∃ a39 k40 k41,
 v37 = Value.slice a39 k40 k41 ∧
 Ob (a1 ≠ none) ∧
 Ob (a1 ≠ none) ∧
 ∃ H42,
 Writes H38 H42 (fldA a1 38) [Value.slice a34 k35 k36] ∧
 Ob (a1 ≠ none) ∧
 Ob (a1 ≠ none) ∧
 ∃ H43,
 Writes H42 H43 (fldA a1 39) [Value.slice a39 k40 k41] ∧
 Triple Proofs.Tryz.prog 91 #[Value.pointer a1] H43 fun v44 H45 =>
 ∃ a46 k47 k48, v44 = Value.slice a46 k47 k48 ∧ Q (Value.slice a46 k47 k48) H45))) :
 Triple Go.Proofs.Tryz.prog 56 ([Value.pointer a1]).toArray H Q :=
 Triple.of_vc choListed.cx (by kernel_rfl) h
theorem choRound.vc (a1 : Option Addr) (n2 : Int) (n3 : Int) (n4 : Int) (n5 : Int) (s6 : ByteArray) (n7 : Int) (n8 : Int) (n9 : Int) (n10 : Int) (n11 : Int) (a12 : Option Addr) (k13 : Nat) (k14 : Nat) (a15 : Option Addr) (k16 : Nat) (k17 : Nat) (a18 : Option Addr) (k19 : Nat) (k20 : Nat) (a21 : Option Addr) (k22 : Nat) (k23 : Nat) (a24 : Option Addr) (k25 : Nat) (k26 : Nat) (v27 : Value) (H : PHeap) (Q : Value → PHeap → Prop)
 (h : Ob (a1 ≠ none) ∧
 Ob (a1 ≠ none) ∧
 ∃ n28,
 Reads H (fldA a1 6) [Value.int IntKind.i64 n28] ∧
 ∃ (R29 : Rl) (M30 : Mu),
 R29
 [Value.slice none 0 0, Value.int IntKind.i64 0,
 Value.agg
 #[Value.int IntKind.i64 n2, Value.int IntKind.i64 n3, Value.int IntKind.i64 n4, Value.int IntKind.i64 n28, Value.string s6, Value.int IntKind.i64 n7, Value.int IntKind.i64 n8,
 Value.int IntKind.i64 n9, Value.int IntKind.i64 n10, Value.int IntKind.i64 n11, Value.slice a12 k13 k14, Value.slice a15 k16 k17, Value.slice a18 k19 k20]]
 H ∧
 ∀ (a31 : Option Addr) (k32 k33 : Nat) (n34 n35 n36 n37 n38 : Int) (s39 : ByteArray) (n40 n41 n42 n43 n44 : Int) (a45 : Option Addr) (k46 k47 : Nat) (a48 : Option Addr) (k49 k50 : Nat)
 (a51 : Option Addr) (k52 k53 : Nat) (H54 : PHeap),
 R29
 [Value.slice a31 k32 k33, Value.int IntKind.i64 n34,
 Value.agg
 #[Value.int IntKind.i64 n35, Value.int IntKind.i64 n36, Value.int IntKind.i64 n37, Value.int IntKind.i64 n38, Value.string s39, Value.int IntKind.i64 n40,
 Value.int IntKind.i64 n41, Value.int IntKind.i64 n42, Value.int IntKind.i64 n43, Value.int IntKind.i64 n44, Value.slice a45 k46 k47, Value.slice a48 k49 k50,
 Value.slice a51 k52 k53]]
 H54 →
 (decide (n34 < (↑k22 : Int)) = true →
 Ob (a21 ≠ none ∧ 0 ≤ n34 ∧ n34 < (↑k22 : Int)) ∧
 ∃ n55,
 Reads H54 (elemA a21 n34 1) [Value.int IntKind.i64 n55] ∧
 ∀ (k56 : Nat),
 H54 k56 = none →
 EvV Proofs.Tryz.prog (Builtin.append_ #[28, 28] 28 #[Value.slice a31 k32 k33, Value.slice (at0 k56) 1 1])
 (H54.upd k56
 (Obj.cells
 #[Value.int IntKind.i64 n35, Value.int IntKind.i64 n36, Value.int IntKind.i64 n55, Value.int IntKind.i64 n38, Value.string s39, Value.int IntKind.i64 n40,
 Value.int IntKind.i64 n41, Value.int IntKind.i64 n42, Value.int IntKind.i64 n43, Value.int IntKind.i64 n44, Value.slice a45 k46 k47, Value.slice a48 k49 k50,
 Value.slice a51 k52 k53]
 52))
 fun v57 H58 =>
 ∃ a59 k60 k61,
 v57 = Value.slice a59 k60 k61 ∧
 R29
 [Value.slice a59 k60 k61, Value.int IntKind.i64 (IntKind.i64.wrap (n34 + 1)),
 Value.agg
 #[Value.int IntKind.i64 n35, Value.int IntKind.i64 n36, Value.int IntKind.i64 n55, Value.int IntKind.i64 n38, Value.string s39, Value.int IntKind.i64 n40,
 Value.int IntKind.i64 n41, Value.int IntKind.i64 n42, Value.int IntKind.i64 n43, Value.int IntKind.i64 n44, Value.slice a45 k46 k47,
 Value.slice a48 k49 k50, Value.slice a51 k52 k53]]
 H58 ∧
 Less
 (M30
 [Value.slice a59 k60 k61, Value.int IntKind.i64 (IntKind.i64.wrap (n34 + 1)),
 Value.agg
 #[Value.int IntKind.i64 n35, Value.int IntKind.i64 n36, Value.int IntKind.i64 n55, Value.int IntKind.i64 n38, Value.string s39, Value.int IntKind.i64 n40,
 Value.int IntKind.i64 n41, Value.int IntKind.i64 n42, Value.int IntKind.i64 n43, Value.int IntKind.i64 n44, Value.slice a45 k46 k47,
 Value.slice a48 k49 k50, Value.slice a51 k52 k53]]
 H58)
 (M30
 [Value.slice a31 k32 k33, Value.int IntKind.i64 n34,
 Value.agg
 #[Value.int IntKind.i64 n35, Value.int IntKind.i64 n36, Value.int IntKind.i64 n37, Value.int IntKind.i64 n38, Value.string s39, Value.int IntKind.i64 n40,
 Value.int IntKind.i64 n41, Value.int IntKind.i64 n42, Value.int IntKind.i64 n43, Value.int IntKind.i64 n44, Value.slice a45 k46 k47,
 Value.slice a48 k49 k50, Value.slice a51 k52 k53]]
 H54)) ∧
 (decide (n34 < (↑k22 : Int)) = false →
 ∃ H62,
 Vx.Sub H62 H54 ∧
 Ob (a1 ≠ none) ∧
 Ob (a1 ≠ none) ∧
 Ob (fldA a1 0 ≠ none) ∧
 ∃ n63,
 Reads H62 (fldA (fldA a1 0) 5) [Value.int IntKind.i64 n63] ∧
 Triple Proofs.Tryz.prog 100 #[Value.int IntKind.i64 n63, Value.slice a31 k32 k33, Value.slice a24 k25 k26] H54 fun v64 H65 =>
 ∃ a66,
 v64 = Value.pointer a66 ∧
 Ob (a1 ≠ none) ∧
 Ob (a1 ≠ none) ∧
 ∃ H67,
 Writes H65 H67 (fldA a1 10) [Value.pointer none] ∧
 Ob (a1 ≠ none) ∧
 Ob (a1 ≠ none) ∧
 ∃ H68,
 Writes H67 H68 (fldA a1 11) [Value.pointer a66] ∧
 Ob (a1 ≠ none) ∧
 Ob (a1 ≠ none) ∧
 ∃ H69,
 Writes H68 H69 (fldA a1 12)
 [Value.int IntKind.i64 n35, Value.int IntKind.i64 n36, Value.int IntKind.i64 n37, Value.int IntKind.i64 n38, Value.string s39,
 Value.int IntKind.i64 n40, Value.int IntKind.i64 n41, Value.int IntKind.i64 n42, Value.int IntKind.i64 n43,
 Value.int IntKind.i64 n44, Value.slice a45 k46 k47, Value.slice a48 k49 k50, Value.slice a51 k52 k53] ∧
 Ob (a1 ≠ none) ∧ Ob (a1 ≠ none) ∧ Ob (okCell v27 = true) ∧ ∃ H70, Writes H69 H70 (fldA a1 25) [v27] ∧ Q (Value.slice a31 k32 k33) H70)) :
 Triple Go.Proofs.Tryz.prog 60 ([Value.pointer a1,
 Value.agg
 #[Value.int IntKind.i64 n2, Value.int IntKind.i64 n3, Value.int IntKind.i64 n4, Value.int IntKind.i64 n5, Value.string s6, Value.int IntKind.i64 n7, Value.int IntKind.i64 n8,
 Value.int IntKind.i64 n9, Value.int IntKind.i64 n10, Value.int IntKind.i64 n11, Value.slice a12 k13 k14, Value.slice a15 k16 k17, Value.slice a18 k19 k20],
 Value.slice a21 k22 k23, Value.slice a24 k25 k26, v27]).toArray H Q :=
 Triple.of_vc choRound.cx (by kernel_rfl) h
theorem choAnswered.vc (a1 : Option Addr) (H : PHeap) (Q : Value → PHeap → Prop)
 (h : Ob (a1 ≠ none) ∧
 Ob (a1 ≠ none) ∧
 ∃ a2,
 Reads H (fldA a1 11) [Value.pointer a2] ∧
 Triple Proofs.Tryz.prog 45 #[Value.pointer a2] H fun v3 H4 =>
 ∃ b5,
 v3 = Value.bool b5 ∧
 (b5 = true → Triple Proofs.Tryz.prog 21 #[Value.pointer a1] H4 fun v6 H7 => ∃ a8 k9 k10, v6 = Value.slice a8 k9 k10 ∧ Q (Value.slice a8 k9 k10) H7) ∧
 (b5 = false → Q (Value.slice none 0 0) H4)) :
 Triple Go.Proofs.Tryz.prog 62 ([Value.pointer a1]).toArray H Q :=
 Triple.of_vc choAnswered.cx (by kernel_rfl) h
theorem choName.vc (a1 : Option Addr) (H : PHeap) (Q : Value → PHeap → Prop)
 (h : Ob (a1 ≠ none) ∧
 Ob (a1 ≠ none) ∧
 ∃ a2 k3 k4,
 Reads H (fldA a1 38) [Value.slice a2 k3 k4] ∧
 (decide ((↑k3 : Int) > 0) = true →
 ∃ H5,
 Vx.Sub H5 H ∧
 Ob (a1 ≠ none) ∧
 Ob (a1 ≠ none) ∧
 ∃ a6 k7 k8,
 Reads H5 (fldA a1 38) [Value.slice a6 k7 k8] ∧
 Ob (a6 ≠ none ∧ (0 : Int) ≤ 0 ∧ 0 < (↑k7 : Int)) ∧
 ∃ s9,
 Reads H5 (elemA a6 0 1) [Value.string s9] ∧
 Ob (a1 ≠ none) ∧
 Ob (a1 ≠ none) ∧
 Triple Proofs.Tryz.prog 90 #[Value.pointer (fldA a1 35)] H fun v10 H11 =>
 ∃ a12 k13 k14,
 v10 = Value.slice a12 k13 k14 ∧
 Vx.Sub H5 H11 ∧
 Triple Proofs.Tryz.prog 23 #[Value.pointer a1, Value.string s9, Value.bool (decide ((↑k13 : Int) > 0)), Value.func (Fn.func 134) #[] #[]] H11 fun v15 H16 =>
 ∃ a17 k18 k19, v15 = Value.slice a17 k18 k19 ∧ Q (Value.slice a17 k18 k19) H16) ∧
 (decide ((↑k3 : Int) > 0) = false →
 Ob (a1 ≠ none) ∧
 Ob (a1 ≠ none) ∧
 ∃ a20 k21 k22,
 Reads H (fldA a1 39) [Value.slice a20 k21 k22] ∧
 (decide ((↑k21 : Int) > 0) = true →
 ∃ H23,
 Vx.Sub H23 H ∧
 Ob (a1 ≠ none) ∧
 Ob (a1 ≠ none) ∧
 ∃ a24 k25 k26,
 Reads H23 (fldA a1 39) [Value.slice a24 k25 k26] ∧
 Ob (a1 ≠ none) ∧
 Ob (a1 ≠ none) ∧
 ∃ a27 k28 k29,
 Reads H23 (fldA a1 39) [Value.slice a27 k28 k29] ∧
 Triple Proofs.Tryz.prog 60
 #[Value.pointer a1,
 Value.agg
 #[Value.int IntKind.i64 7, Value.int IntKind.i64 0, Value.int IntKind.i64 0, Value.int IntKind.i64 0, Value.string ({ data := #[] } : ByteArray),
 Value.int IntKind.i64 0, Value.int IntKind.i64 0, Value.int IntKind.i64 0, Value.int IntKind.i64 0, Value.int IntKind.i64 0, Value.slice none 0 0,
 Value.slice none 0 0, Value.slice none 0 0],
 Value.slice a24 k25 k26, Value.slice a27 k28 k29, Value.func (Fn.func 62) #[] #[]]
 H fun v30 H31 => ∃ a32 k33 k34, v30 = Value.slice a32 k33 k34 ∧ Q (Value.slice a32 k33 k34) H31) ∧
 (decide ((↑k21 : Int) > 0) = false →
 Triple Proofs.Tryz.prog 21 #[Value.pointer a1] H fun v35 H36 => ∃ a37 k38 k39, v35 = Value.slice a37 k38 k39 ∧ Q (Value.slice a37 k38 k39) H36))) :
 Triple Go.Proofs.Tryz.prog 91 ([Value.pointer a1]).toArray H Q :=
 Triple.of_vc choName.cx (by kernel_rfl) h
theorem choNamed.vc (a1 : Option Addr) (H : PHeap) (Q : Value → PHeap → Prop)
 (h : ∀ (k2 : Nat),
 H k2 = none →
 ∃ a3,
 Reads (H.upd k2 (Obj.cells #[Value.pointer a1] 31)) (at0 k2) [Value.pointer a3] ∧
 Ob (a3 ≠ none) ∧
 Ob (a3 ≠ none) ∧
 ∃ a4 k5 k6,
 Reads (H.upd k2 (Obj.cells #[Value.pointer a1] 31)) (fldA a3 38) [Value.slice a4 k5 k6] ∧
 Ob (a4 ≠ none ∧ (0 : Int) ≤ 0 ∧ 0 < (↑k5 : Int)) ∧
 ∃ s7,
 Reads (H.upd k2 (Obj.cells #[Value.pointer a1] 31)) (elemA a4 0 1) [Value.string s7] ∧
 ∃ H8,
 Vx.Sub H8 (H.upd k2 (Obj.cells #[Value.pointer a1] 31)) ∧
 ∃ a9,
 Reads H8 (at0 k2) [Value.pointer a9] ∧
 ∃ a10,
 Reads H8 (at0 k2) [Value.pointer a10] ∧
 Ob (a10 ≠ none) ∧
 Ob (a10 ≠ none) ∧
 ∃ a11 k12 k13,
 Reads H8 (fldA a10 38) [Value.slice a11 k12 k13] ∧
 Ob ((0 : Int) ≤ 1 ∧ 1 ≤ (↑k12 : Int) ∧ (↑k12 : Int) ≤ (↑k13 : Int)) ∧
 Ob (a9 ≠ none) ∧
 Ob (a9 ≠ none) ∧
 ∃ H14,
 Writes (H.upd k2 (Obj.cells #[Value.pointer a1] 31)) H14 (fldA a9 38)
 [Value.slice (slA a11 1 k13 1) ((↑k12 : Int).toNat - Int.toNat 1) (k13 - Int.toNat 1)] ∧
 ∃ a15,
 Reads H14 (at0 k2) [Value.pointer a15] ∧
 Ob (a15 ≠ none) ∧
 Ob (a15 ≠ none) ∧
 Ob (fldA a15 26 ≠ none) ∧
 ∃ b16,
 Reads H14 (fldA (fldA a15 26) 1) [Value.bool b16] ∧
 (b16 = true →
 ∃ H17,
 Vx.Sub H17 H14 ∧
 ∃ a18,
 Reads H17 (at0 k2) [Value.pointer a18] ∧
 ∃ a19,
 Reads H17 (at0 k2) [Value.pointer a19] ∧
 Ob (a19 ≠ none) ∧
 Ob (a19 ≠ none) ∧
 ∃ a20 k21 k22,
 Reads H17 (fldA a19 39) [Value.slice a20 k21 k22] ∧
 Triple Proofs.Tryz.prog 137
 #[Value.slice a20 k21 k22, Value.func (Fn.func 154) #[] #[Value.pointer (at0 k2)]]
 H14 fun v23 H24 =>
 ∃ a25 k26 k27,
 v23 = Value.slice a25 k26 k27 ∧
 Vx.Sub H17 H24 ∧
 Ob (a18 ≠ none) ∧
 Ob (a18 ≠ none) ∧
 ∃ H28,
 Writes H24 H28 (fldA a18 39) [Value.slice a25 k26 k27] ∧
 ∃ a29,
 Reads H28 (at0 k2) [Value.pointer a29] ∧
 Ob (a29 ≠ none) ∧
 Ob (a29 ≠ none) ∧
 Ob (fldA a29 26 ≠ none) ∧
 Ob (fldA (fldA a29 26) 2 ≠ none) ∧
 ∃ b30,
 Reads H28 (fldA (fldA (fldA a29 26) 2) 0) [Value.bool b30] ∧
 (b30 = true →
 ∃ H31,
 Vx.Sub H31 H28 ∧
 ∃ a32,
 Reads H31 (at0 k2) [Value.pointer a32] ∧
 Ob (a32 ≠ none) ∧
 Ob (a32 ≠ none) ∧
 ∃ n33 n34 n35 n36 n37 n38,
 Reads H31 (fldA a32 0)
 [Value.int IntKind.i64 n33, Value.int IntKind.i64 n34,
 Value.int IntKind.i64 n35, Value.int IntKind.i64 n36,
 Value.int IntKind.i64 n37,
 Value.int IntKind.i64 n38] ∧
 ∃ a39,
 Reads H31 (at0 k2)
 [Value.pointer a39] ∧
 Ob (a39 ≠ none) ∧
 Ob (a39 ≠ none) ∧
 Ob (fldA a39 26 ≠ none) ∧
 ∃ a40 k41 k42,
 Reads H31 (fldA (fldA a39 26) 6)
 [Value.slice a40 k41 k42] ∧
 Triple Proofs.Tryz.prog 156
 #[Value.agg
 #[Value.int IntKind.i64 n33,
 Value.int IntKind.i64 n34,
 Value.int IntKind.i64 n35,
 Value.int IntKind.i64 n36,
 Value.int IntKind.i64 n37,
 Value.int IntKind.i64 n38],
 Value.slice a40 k41 k42]
 H28 fun v43 H44 =>
 ∃ a45 k46 k47,
 v43 = Value.slice a45 k46 k47 ∧
 ∃ (R48 : Rl) (M49 : Mu),
 R48 [Value.int IntKind.i64 0] H44 ∧
 ∀ (n50 : Int) (H51 : PHeap),
 R48 [Value.int IntKind.i64 n50]
 H51 →
 (decide (n50 < (↑k46 : Int)) =
 true →
 Ob
 (a45 ≠ none ∧
 0 ≤ n50 ∧
 n50 <
 (↑k46 : Int)) ∧
 ∃ n52,
 Reads H51
 (elemA a45 n50 1)
 [Value.int
 IntKind.i64
 n52] ∧
 ∃ H53,
 Vx.Sub H53 H51 ∧
 ∃ a54,
 Reads H53
 (at0 k2)
 [Value.pointer
 a54] ∧
 Ob
 (a54 ≠
 none) ∧
 Ob
 (a54 ≠
 none) ∧
 ∃ n55
 n56
 n57
 n58
 n59
 n60,
 Reads
 H53
 (fldA
 a54
 0)
 [Value.int
 IntKind.i64
 n55,
 Value.int
 IntKind.i64
 n56,
 Value.int
 IntKind.i64
 n57,
 Value.int
 IntKind.i64
 n58,
 Value.int
 IntKind.i64
 n59,
 Value.int
 IntKind.i64
 n60] ∧
 ∃
 a61,
 Reads
 H53
 (at0 k2)
 [Value.pointer
 a61] ∧
 Ob
 (a61 ≠
 none) ∧
 Ob
 (a61 ≠
 none) ∧
 Ob
 (fldA
 a61
 26 ≠
 none) ∧
 ∃
 a62
 k63
 k64,
 Reads
 H53
 (fldA
 (fldA
 a61
 26)
 6)
 [Value.slice
 a62
 k63
 k64] ∧
 Triple
 Proofs.Tryz.prog
 58
 #[Value.agg
 #[Value.int
 IntKind.i64
 n55,
 Value.int
 IntKind.i64
 n56,
 Value.int
 IntKind.i64
 n57,
 Value.int
 IntKind.i64
 n58,
 Value.int
 IntKind.i64
 n59,
 Value.int
 IntKind.i64
 n60],
 Value.slice
 a62
 k63
 k64,
 Value.int
 IntKind.i64
 n52]
 H51
 fun
 v65
 H66 =>
 ∃
 a67
 k68
 k69
 b70,
 v65 =
 Value.tuple
 #[Value.slice
 a67
 k68
 k69,
 Value.bool
 b70] ∧
 (b70 =
 true →
 Triple
 Proofs.Tryz.prog
 155
 #[Value.agg
 #[Value.int
 IntKind.i64
 2,
 Value.string
 s7,
 Value.int
 IntKind.i64
 n52],
 Value.pointer
 (at0 k2)]
 H66
 fun
 v71
 H72 =>
 v71 =
 Value.tuple
 #[] ∧
 R48
 [Value.int
 IntKind.i64
 (IntKind.i64.wrap
 (n50 +
 1))]
 H72 ∧
 Less
 (M49
 [Value.int
 IntKind.i64
 (IntKind.i64.wrap
 (n50 +
 1))]
 H72)
 (M49
 [Value.int
 IntKind.i64
 n50]
 H51)) ∧
 (b70 =
 false →
 R48
 [Value.int
 IntKind.i64
 (IntKind.i64.wrap
 (n50 +
 1))]
 H66 ∧
 Less
 (M49
 [Value.int
 IntKind.i64
 (IntKind.i64.wrap
 (n50 +
 1))]
 H66)
 (M49
 [Value.int
 IntKind.i64
 n50]
 H51))) ∧
 (decide
 (n50 < (↑k46 : Int)) =
 false →
 ∃ a73,
 Reads H51
 (at0 k2)
 [Value.pointer
 a73] ∧
 Triple
 Proofs.Tryz.prog 91
 #[Value.pointer a73]
 H51 fun v74 H75 =>
 ∃ a76 k77 k78,
 v74 =
 Value.slice
 a76 k77
 k78 ∧
 Q
 (Value.slice
 a76 k77 k78)
 H75)) ∧
 (b30 = false →
 ∃ H79,
 Vx.Sub H79 H28 ∧
 ∃ a80,
 Reads H79 (at0 k2) [Value.pointer a80] ∧
 Ob (a80 ≠ none) ∧
 Ob (a80 ≠ none) ∧
 ∃ n81 n82 n83 n84 n85 n86,
 Reads H79 (fldA a80 0)
 [Value.int IntKind.i64 n81, Value.int IntKind.i64 n82,
 Value.int IntKind.i64 n83, Value.int IntKind.i64 n84,
 Value.int IntKind.i64 n85,
 Value.int IntKind.i64 n86] ∧
 ∃ a87,
 Reads H79 (at0 k2)
 [Value.pointer a87] ∧
 Ob (a87 ≠ none) ∧
 Ob (a87 ≠ none) ∧
 Ob (fldA a87 26 ≠ none) ∧
 ∃ a88 k89 k90,
 Reads H79 (fldA (fldA a87 26) 8)
 [Value.slice a88 k89 k90] ∧
 Triple Proofs.Tryz.prog 157
 #[Value.agg
 #[Value.int IntKind.i64 n81,
 Value.int IntKind.i64 n82,
 Value.int IntKind.i64 n83,
 Value.int IntKind.i64 n84,
 Value.int IntKind.i64 n85,
 Value.int IntKind.i64 n86],
 Value.slice a88 k89 k90]
 H28 fun v91 H92 =>
 ∃ b93,
 v91 = Value.bool b93 ∧
 (b93 = true →
 Triple Proofs.Tryz.prog 155
 #[Value.agg
 #[Value.int IntKind.i64 3,
 Value.string s7,
 Value.int IntKind.i64 0],
 Value.pointer
 (at0 k2)]
 H92 fun v94 H95 =>
 v94 = Value.tuple #[] ∧
 ∃ a96,
 Reads H95
 (at0 k2)
 [Value.pointer a96] ∧
 Triple Proofs.Tryz.prog 91
 #[Value.pointer a96] H95
 fun v97 H98 =>
 ∃ a99 k100 k101,
 v97 =
 Value.slice a99
 k100 k101 ∧
 Q
 (Value.slice a99
 k100 k101)
 H98) ∧
 (b93 = false →
 ∃ a102,
 Reads H92
 (at0 k2)
 [Value.pointer a102] ∧
 Triple Proofs.Tryz.prog 91
 #[Value.pointer a102] H92
 fun v103 H104 =>
 ∃ a105 k106 k107,
 v103 =
 Value.slice a105 k106
 k107 ∧
 Q
 (Value.slice a105 k106
 k107)
 H104))) ∧
 (b16 = false →
 ∃ a108,
 Reads H14 (at0 k2) [Value.pointer a108] ∧
 Ob (a108 ≠ none) ∧
 Ob (a108 ≠ none) ∧
 Ob (fldA a108 26 ≠ none) ∧
 Ob (fldA (fldA a108 26) 2 ≠ none) ∧
 ∃ b109,
 Reads H14 (fldA (fldA (fldA a108 26) 2) 0) [Value.bool b109] ∧
 (b109 = true →
 ∃ H110,
 Vx.Sub H110 H14 ∧
 ∃ a111,
 Reads H110 (at0 k2) [Value.pointer a111] ∧
 Ob (a111 ≠ none) ∧
 Ob (a111 ≠ none) ∧
 ∃ n112 n113 n114 n115 n116 n117,
 Reads H110 (fldA a111 0)
 [Value.int IntKind.i64 n112, Value.int IntKind.i64 n113, Value.int IntKind.i64 n114,
 Value.int IntKind.i64 n115, Value.int IntKind.i64 n116, Value.int IntKind.i64 n117] ∧
 ∃ a118,
 Reads H110 (at0 k2) [Value.pointer a118] ∧
 Ob (a118 ≠ none) ∧
 Ob (a118 ≠ none) ∧
 Ob (fldA a118 26 ≠ none) ∧
 ∃ a119 k120 k121,
 Reads H110 (fldA (fldA a118 26) 6) [Value.slice a119 k120 k121] ∧
 Triple Proofs.Tryz.prog 156
 #[Value.agg
 #[Value.int IntKind.i64 n112, Value.int IntKind.i64 n113,
 Value.int IntKind.i64 n114, Value.int IntKind.i64 n115,
 Value.int IntKind.i64 n116, Value.int IntKind.i64 n117],
 Value.slice a119 k120 k121]
 H14 fun v122 H123 =>
 ∃ a124 k125 k126,
 v122 = Value.slice a124 k125 k126 ∧
 ∃ (R127 : Rl) (M128 : Mu),
 R127 [Value.int IntKind.i64 0] H123 ∧
 ∀ (n129 : Int) (H130 : PHeap),
 R127 [Value.int IntKind.i64 n129] H130 →
 (decide (n129 < (↑k125 : Int)) = true →
 Ob (a124 ≠ none ∧ 0 ≤ n129 ∧ n129 < (↑k125 : Int)) ∧
 ∃ n131,
 Reads H130 (elemA a124 n129 1)
 [Value.int IntKind.i64 n131] ∧
 ∃ H132,
 Vx.Sub H132 H130 ∧
 ∃ a133,
 Reads H132 (at0 k2)
 [Value.pointer a133] ∧
 Ob (a133 ≠ none) ∧
 Ob (a133 ≠ none) ∧
 ∃ n134 n135 n136 n137 n138 n139,
 Reads H132 (fldA a133 0)
 [Value.int IntKind.i64 n134,
 Value.int IntKind.i64 n135,
 Value.int IntKind.i64 n136,
 Value.int IntKind.i64 n137,
 Value.int IntKind.i64 n138,
 Value.int IntKind.i64 n139] ∧
 ∃ a140,
 Reads H132
 (at0 k2)
 [Value.pointer a140] ∧
 Ob (a140 ≠ none) ∧
 Ob (a140 ≠ none) ∧
 Ob (fldA a140 26 ≠ none) ∧
 ∃ a141 k142 k143,
 Reads H132
 (fldA (fldA a140 26) 6)
 [Value.slice a141 k142
 k143] ∧
 Triple Proofs.Tryz.prog 58
 #[Value.agg
 #[Value.int
 IntKind.i64
 n134,
 Value.int
 IntKind.i64
 n135,
 Value.int
 IntKind.i64
 n136,
 Value.int
 IntKind.i64
 n137,
 Value.int
 IntKind.i64
 n138,
 Value.int
 IntKind.i64
 n139],
 Value.slice a141 k142
 k143,
 Value.int IntKind.i64
 n131]
 H130 fun v144 H145 =>
 ∃ a146 k147 k148 b149,
 v144 =
 Value.tuple
 #[Value.slice
 a146 k147
 k148,
 Value.bool
 b149] ∧
 (b149 = true →
 Triple
 Proofs.Tryz.prog
 155
 #[Value.agg
 #[Value.int
 IntKind.i64
 2,
 Value.string
 s7,
 Value.int
 IntKind.i64
 n131],
 Value.pointer
 (at0 k2)]
 H145
 fun v150
 H151 =>
 v150 =
 Value.tuple
 #[] ∧
 R127
 [Value.int
 IntKind.i64
 (IntKind.i64.wrap
 (n129 +
 1))]
 H151 ∧
 Less
 (M128
 [Value.int
 IntKind.i64
 (IntKind.i64.wrap
 (n129 +
 1))]
 H151)
 (M128
 [Value.int
 IntKind.i64
 n129]
 H130)) ∧
 (b149 = false →
 R127
 [Value.int
 IntKind.i64
 (IntKind.i64.wrap
 (n129 +
 1))]
 H145 ∧
 Less
 (M128
 [Value.int
 IntKind.i64
 (IntKind.i64.wrap
 (n129 +
 1))]
 H145)
 (M128
 [Value.int
 IntKind.i64
 n129]
 H130))) ∧
 (decide (n129 < (↑k125 : Int)) = false →
 ∃ a152,
 Reads H130 (at0 k2)
 [Value.pointer a152] ∧
 Triple Proofs.Tryz.prog 91 #[Value.pointer a152] H130
 fun v153 H154 =>
 ∃ a155 k156 k157,
 v153 = Value.slice a155 k156 k157 ∧
 Q (Value.slice a155 k156 k157) H154)) ∧
 (b109 = false →
 ∃ H158,
 Vx.Sub H158 H14 ∧
 ∃ a159,
 Reads H158 (at0 k2) [Value.pointer a159] ∧
 Ob (a159 ≠ none) ∧
 Ob (a159 ≠ none) ∧
 ∃ n160 n161 n162 n163 n164 n165,
 Reads H158 (fldA a159 0)
 [Value.int IntKind.i64 n160, Value.int IntKind.i64 n161, Value.int IntKind.i64 n162,
 Value.int IntKind.i64 n163, Value.int IntKind.i64 n164, Value.int IntKind.i64 n165] ∧
 ∃ a166,
 Reads H158 (at0 k2) [Value.pointer a166] ∧
 Ob (a166 ≠ none) ∧
 Ob (a166 ≠ none) ∧
 Ob (fldA a166 26 ≠ none) ∧
 ∃ a167 k168 k169,
 Reads H158 (fldA (fldA a166 26) 8) [Value.slice a167 k168 k169] ∧
 Triple Proofs.Tryz.prog 157
 #[Value.agg
 #[Value.int IntKind.i64 n160, Value.int IntKind.i64 n161,
 Value.int IntKind.i64 n162, Value.int IntKind.i64 n163,
 Value.int IntKind.i64 n164, Value.int IntKind.i64 n165],
 Value.slice a167 k168 k169]
 H14 fun v170 H171 =>
 ∃ b172,
 v170 = Value.bool b172 ∧
 (b172 = true →
 Triple Proofs.Tryz.prog 155
 #[Value.agg
 #[Value.int IntKind.i64 3, Value.string s7,
 Value.int IntKind.i64 0],
 Value.pointer (at0 k2)]
 H171 fun v173 H174 =>
 v173 = Value.tuple #[] ∧
 ∃ a175,
 Reads H174 (at0 k2)
 [Value.pointer a175] ∧
 Triple Proofs.Tryz.prog 91 #[Value.pointer a175] H174
 fun v176 H177 =>
 ∃ a178 k179 k180,
 v176 = Value.slice a178 k179 k180 ∧
 Q (Value.slice a178 k179 k180) H177) ∧
 (b172 = false →
 ∃ a181,
 Reads H171 (at0 k2) [Value.pointer a181] ∧
 Triple Proofs.Tryz.prog 91 #[Value.pointer a181] H171
 fun v182 H183 =>
 ∃ a184 k185 k186,
 v182 = Value.slice a184 k185 k186 ∧
 Q (Value.slice a184 k185 k186) H183)))) :
 Triple Go.Proofs.Tryz.prog 134 ([Value.pointer a1]).toArray H Q :=
 Triple.of_vc choNamed.cx (by kernel_rfl) h
theorem choNamed1.vc (n1 : Int) (a2 : Option Addr) (H : PHeap) (Q : Value → PHeap → Prop)
 (h : ∃ a3,
 Reads H a2 [Value.pointer a3] ∧
 Ob (a3 ≠ none) ∧
 Ob (a3 ≠ none) ∧
 Ob (fldA a3 26 ≠ none) ∧
 ∃ a4 k5 k6,
 Reads H (fldA (fldA a3 26) 7) [Value.slice a4 k5 k6] ∧
 Triple Proofs.Tryz.prog 59 #[Value.slice a4 k5 k6, Value.int IntKind.i64 n1] H fun v7 H8 => ∃ b9, v7 = Value.bool b9 ∧ Q (Value.bool !b9) H8) :
 Triple Go.Proofs.Tryz.prog 154 ([Value.int IntKind.i64 n1, Value.pointer a2]).toArray H Q :=
 Triple.of_vc choNamed1.cx (by kernel_rfl) h
theorem choNamed2.vc (n1 : Int) (s2 : ByteArray) (n3 : Int) (a4 : Option Addr) (H : PHeap) (Q : Value → PHeap → Prop)
 (h : ∃ H5,
 Vx.Sub H5 H ∧
 ∃ a6,
 Reads H5 a4 [Value.pointer a6] ∧
 ∃ a7,
 Reads H5 a4 [Value.pointer a7] ∧
 Ob (a7 ≠ none) ∧
 Ob (a7 ≠ none) ∧
 ∃ a8 k9 k10,
 Reads H5 (fldA a7 40) [Value.slice a8 k9 k10] ∧
 ∀ (k11 : Nat),
 H k11 = none →
 Vx.Sub H5 (H.upd k11 (Obj.cells #[Value.int IntKind.i64 n1, Value.string s2, Value.int IntKind.i64 n3] 34)) ∧
 EvV Proofs.Tryz.prog (Builtin.append_ #[38, 38] 38 #[Value.slice a8 k9 k10, Value.slice (at0 k11) 1 1])
 (H.upd k11 (Obj.cells #[Value.int IntKind.i64 n1, Value.string s2, Value.int IntKind.i64 n3] 34)) fun v12 H13 =>
 ∃ a14 k15 k16,
 v12 = Value.slice a14 k15 k16 ∧ Vx.Sub H5 H13 ∧ Ob (a6 ≠ none) ∧ Ob (a6 ≠ none) ∧ ∃ H17, Writes H13 H17 (fldA a6 40) [Value.slice a14 k15 k16] ∧ Q (Value.tuple #[]) H17) :
 Triple Go.Proofs.Tryz.prog 155 ([Value.agg #[Value.int IntKind.i64 n1, Value.string s2, Value.int IntKind.i64 n3], Value.pointer a4]).toArray H Q :=
 Triple.of_vc choNamed2.cx (by kernel_rfl) h
theorem cloneC.vc (a1 : Option Addr) (k2 : Nat) (k3 : Nat) (H : PHeap) (Q : Value → PHeap → Prop)
 (h : (a1.isNone = true → Q (Value.slice none 0 0) H) ∧
 (a1.isNone = false →
 ∀ (k4 : Nat),
 H k4 = none →
 EvV Proofs.Tryz.prog (Builtin.append_ #[38, 38] 38 #[Value.slice (at0 k4) 0 0, Value.slice a1 k2 k3]) (H.upd k4 (Obj.cells #[] 34)) fun v5 H6 =>
 ∃ a7 k8 k9, v5 = Value.slice a7 k8 k9 ∧ Q (Value.slice a7 k8 k9) H6)) :
 Triple Go.Proofs.Tryz.prog 30 ([Value.slice a1 k2 k3]).toArray H Q :=
 Triple.of_vc cloneC.cx (by kernel_rfl) h
end Go.Vc
namespace Go.Rnd
open Go.Vx Go.Vc Go.Proofs
theorem grow_le2 {F H G G' : PHeap} (h : Sub G G') : Sub (grow F H G) (grow F H G') := ⟨fun q o hq => by
  unfold grow at hq ⊢
  cases hh : H q with
  | some x => rw [hh] at hq; exact hq
  | none => rw [hh] at hq; exact h.le _ _ hq⟩
theorem rd_grow2 {α : Type} {F H H2 : PHeap} {E : α → List Value} {sz : Nat} {oa : Option Addr} {n : Nat} {l : List α} (h : RdL H2 E sz oa n l) (ho : Off H oa) : RdL (grow F H H2) E sz oa n l :=
  h.part fun a o ha hb => by rw [grow_at (ho a ha)]; exact hb
/-- A round is made: apart from what was there. -/
theorem new2_ok {F H : PHeap} {oa ob : Option Addr} {n c m d : Nat} {asks : List Msg} {wait : List Int} {tries : Int} (hF : Sub F H) (h1 : RdL H mE 13 oa n asks) (h2 : RdL H iE 1 ob m wait) (hn : n ≤ 100000) (hm : m ≤ 100000) :
    Triple Tryz.prog 100 #[.int .i64 tries, .slice oa n c, .slice ob m d] H fun v H' => ∃ k H2, v = .pointer (at0 k) ∧ Sub H H2 ∧ Sub H2 H' ∧ RdS (grow F H H2) (grow F H H') k asks wait [] (maxI tries 0) := by
  refine newR.vc tries oa n c ob m d H _ ((cloneM_ok h1 hn).mono ?_)
  rintro _ H1 ⟨b1, k1, rfl, g1, s1, f1⟩
  refine ⟨b1, n, k1, rfl, (cloneI_ok (h2.mono s1) hm).mono ?_⟩
  rintro _ H2 ⟨b2, k2, rfl, g2, s2, f2⟩
  refine ⟨b2, m, k2, rfl, makeMap_mp fun b hb => ⟨some b, rfl, fun k hk => ?_⟩⟩
  have hkb : b ≠ k := fun e => by rw [e, upd_eq] at hk; cases hk
  have hk2 : H2 k = none := by rwa [Vx.upd_ne _ _ (fun e => hkb e.symm)] at hk
  have s12 := s1.trans s2
  have hkH : H k = none := s12.none hk2
  have hbH : H b = none := s12.none hb
  have s3 : Sub H2 ((H2.upd b (.map #[] 0)).upd k (.cells #[.slice b1 n k1, .slice b2 m k2, .map (some b), .int .i64 (maxI tries 0)] 119 (0, 0))) := (Sub.upd _ hb).trans (Sub.upd _ hk)
  refine ⟨k, H2, rfl, s12, s3, ⟨grow_le2 s3, by rw [grow_at hkH]; exact hk2, b1, n, k1, b2, m, k2, b, ?_, rd_grow2 ((g1.rd (E := mE) (sz := 13) (by omega) mLen).mono s2) f1, rd_grow2 (g2.rd (E := iE) (sz := 1) (by omega) iLen) (f2.sub s1), ?_, by rw [grow_at hbH]; exact hb, hkb, hn, hm⟩⟩
  · unfold Bx
    rw [grow_at hkH]
    exact Bx.new _ k _ _
  · have := (Mp.new H2 b (Value.int .i64) vM (κ := Int) (ν := Msg)).mono (H' := (H2.upd b (.map #[] 0)).upd k (.cells #[.slice b1 n k1, .slice b2 m k2, .map (some b), .int .i64 (maxI tries 0)] 119 (0, 0))) fun o ho => (Sub.upd _ hk).le _ _ ho
    exact this.mono fun o ho => by rw [grow_at hbH]; exact ho
end Go.Rnd
namespace Go.Cho
open Go.Vx Go.Vc Go.Proofs Go.Pln Go.Stl Go.Agr
open Go.Hp (rest_ok restL restL_spec restL_len Asc asc_ext has_ok refRest_ok)
open Go.Rnd (takesG insG froms againG OkM AscG RdS Both)
open Go.Txt (sE)
open Go.Page (limL namesL susL susStep cntL sumN names_ noS stateL PgT)
theorem Parts.wr {F A B H : PHeap} {k : Nat} {o : Obj} (h : Parts F A B H) (hk : F k = none) (hb : B k ≠ none) : Parts F A (B.upd k o) (H.upd k o) := by
  have ha : A k = none := (h.apart k hk).resolve_right hb
  refine ⟨h.fa, h.fb.wr hk, h.a.wr ha, ⟨fun q o' hq => ?_⟩, fun q hq => ?_⟩
  · by_cases e : q = k
    · rw [e, Vx.upd_eq] at hq ⊢; exact hq
    · rw [Vx.upd_ne _ _ e] at hq ⊢; exact h.b.le _ _ hq
  · by_cases e : q = k
    · rw [e]; exact .inl ha
    · rw [Vx.upd_ne _ _ e]; exact h.apart q hq
theorem agK_weak {F F0 H : PHeap} {k kr : Nat} {s : Agr.St} (h : AgK F H k kr s) (hs : Sub F0 F) (hG : ∀ m ∈ s.G, OkM F0 m) (hS : ∀ m ∈ s.said, OkM F0 m) : AgK F0 H k kr s := by
  obtain ⟨h1, h2, F1, got, x, h3, h4, h5, h6⟩ := h
  exact ⟨hs.none h1, ⟨h2.pok, h2.wt, h2.gin, h2.asc, hG, hS⟩, F1, got, x, h3, h4, hs.trans h5, h6⟩
structure Pl where
  a : Option Addr
  n : Nat
  c : Nat
abbrev Pl.v (p : Pl) : Value := .slice p.a p.n p.c
def pl0 : Pl := ⟨none, 0, 0⟩
structure TV where
  a : Option Addr
  r : Option Addr
  am : Msg
  j : Value
  s : Agr.St
  rx : AV
  pn : Pl
  ps : Pl
  nm : Pl
  su : Pl
  ch : Pl
abbrev slV {α : Type} (s : Sl α) : Value := .slice s.oa s.n s.c
abbrev mL (m : Msg) : List Value := [vI m.1, vI m.2.1, vI m.2.2.1, vI m.2.2.2.1, .string m.2.2.2.2.1, vI m.2.2.2.2.2.1, vI m.2.2.2.2.2.2.1, vI m.2.2.2.2.2.2.2.1, vI m.2.2.2.2.2.2.2.2.1, vI m.2.2.2.2.2.2.2.2.2.1, slV m.2.2.2.2.2.2.2.2.2.2.1, slV m.2.2.2.2.2.2.2.2.2.2.2.1, slV m.2.2.2.2.2.2.2.2.2.2.2.2]
abbrev cellsT (t : TS) (x : TV) : List Value :=
  [vI t.p.n, vI t.p.t, vI t.p.l, vI t.p.w, vI t.p.s, vI t.p.r, vI t.ballot, vI t.c.k, .string t.c.nm, vI t.c.tg, .pointer x.a, .pointer x.r,
   vI x.am.1, vI x.am.2.1, vI x.am.2.2.1, vI x.am.2.2.2.1, .string x.am.2.2.2.2.1, vI x.am.2.2.2.2.2.1, vI x.am.2.2.2.2.2.2.1, vI x.am.2.2.2.2.2.2.2.1, vI x.am.2.2.2.2.2.2.2.2.1, vI x.am.2.2.2.2.2.2.2.2.2.1, slV x.am.2.2.2.2.2.2.2.2.2.2.1, slV x.am.2.2.2.2.2.2.2.2.2.2.2.1, slV x.am.2.2.2.2.2.2.2.2.2.2.2.2,
   x.j, .bool x.s.ok, .bool x.s.fixed, .bool x.s.value.pr, vI x.s.value.at_, vI x.s.value.ep, vI x.s.value.sz, .slice x.rx.h x.rx.hn x.rx.hc, .slice x.rx.a x.rx.an x.rx.ac, .slice x.rx.s x.rx.sn x.rx.sc,
   x.pn.v, .string t.after, x.ps.v, x.nm.v, x.su.v, x.ch.v, .bool (decide (t.at_ = 0))]
abbrev tTk : TypeId := 75
abbrev chE (c : Ch) : List Value := [vI c.k, .string c.nm, vI c.tg]
theorem chLen (c : Ch) : (chE c).length = 3 := rfl
theorem chOne (c : Ch) : ∀ u ∈ chE c, u.oneCell' = true := fun u hu => by simp at hu; rcases hu with rfl | rfl | rfl <;> rfl
theorem tCh : ElemT Tryz.prog 38 34 3 32 := .of (by kernel_rfl)
/-- Places of their own. -/
structure Apart (F : PHeap) (k : Nat) (x : TV) : Prop where
  ps : Off F x.ps.a
  su : Off F x.su.a
  ch : Off F x.ch.a
  psk : ∀ z, x.ps.a = some z → z.block ≠ k
  suk : ∀ z, x.su.a = some z → z.block ≠ k
  chk : ∀ z, x.ch.a = some z → z.block ≠ k
  pu : ∀ z y, x.ps.a = some z → x.su.a = some y → z.block ≠ y.block
  pc : ∀ z y, x.ps.a = some z → x.ch.a = some y → z.block ≠ y.block
  uc : ∀ z y, x.su.a = some z → x.ch.a = some y → z.block ≠ y.block
/-- The block k of B holds a task, beside F. -/
structure TkB (F B : PHeap) (k : Nat) (t : TS) (x : TV) : Prop where
  sub : Sub F B
  off : F k = none
  bx : Bx B k tTk (cellsT t x)
  pn : RdL F sE 1 x.pn.a x.pn.n t.pn
  ps : OwnL B 3 iE 1 x.ps.a x.ps.n x.ps.c t.ps
  nm : RdL F sE 1 x.nm.a x.nm.n t.names
  nmc : x.nm.n ≤ x.nm.c
  su : OwnL B 3 iE 1 x.su.a x.su.n x.su.c t.sus
  ch : OwnL B 34 chE 3 x.ch.a x.ch.n x.ch.c t.chores
  ap : Apart F k x
  an : x.am.2.2.2.2.1 = t.askN
  aw : RdL F iE 1 (who_ x.am).oa (who_ x.am).n t.askW
def jT (a : Int) : Value := if a = 1 then .func (Fn.func 56) #[] #[] else if a = 2 then .func (Fn.func 134) #[] #[]
  else if a = 4 then .func (Fn.func 24) #[] #[] else if a = 6 then .func (Fn.func 25) #[] #[] else .func (Fn.func 62) #[] #[]
def kT (a : Int) : Int := if a = 1 then 6 else if a = 3 then 7 else if a = 5 then 10 else 8
/-- What it waits for lies in A. -/
structure TkA (F A : PHeap) (t : TS) (x : TV) : Prop where
  j : t.at_ ≠ 0 → x.j = jT t.at_
  ag : t.agrees = true → ∃ ka, x.a = at0 ka ∧ AgS F A ka t.A
  rd : t.agrees = false → t.at_ ≠ 0 → x.a = none ∧ x.am.1 = kT t.at_ ∧ ∃ kr asks got, x.r = at0 kr ∧ RdS F A kr asks t.wait got t.tries ∧ Both got t.G ∧ asks.map strip = t.asks ∧ (∀ m ∈ asks, OkM F m) ∧ ∀ m ∈ t.G, OkC F m
  no : t.at_ = 1 → x.su = pl0 ∧ x.ch = pl0 ∧ t.sus = []
def TkS (H0 H : PHeap) (k : Nat) (t : TS) : Prop := ∃ F A B x, Sub H0 F ∧ Parts F A B H ∧ TkB F B k t x ∧ TkA F A t x
/-- What is said: these messages, wherever their lists lie. -/
def SaidL (L : List Msg) (v : Value) (H : PHeap) : Prop := ∃ b n c l, v = .slice b n c ∧ RdL H mE 13 b n l ∧ (∀ m ∈ l, OkM H m) ∧ l.map strip = L
abbrev OutT (H0 : PHeap) (k : Nat) (r : TS × List Msg) (v : Value) (H' : PHeap) : Prop := SaidL r.2 v H' ∧ TkS H0 H' k r.1
theorem SaidL.nil (H : PHeap) : SaidL [] (.slice none 0 0) H := ⟨none, 0, 0, [], rfl, RdL.nil _ _ _, (fun m hm => by cases hm), rfl⟩
theorem SaidL.mono {L : List Msg} {v : Value} {H H' : PHeap} (h : SaidL L v H) (hs : Sub H H') : SaidL L v H' := by
  obtain ⟨b, n, c, l, h1, h2, h3, h4⟩ := h
  exact ⟨b, n, c, l, h1, h2.mono hs, fun m hm => (h3 m hm).mono hs, h4⟩
theorem Apart.same {F F' : PHeap} {k : Nat} {x x' : TV} (h : Apart F k x) (h1 : x'.ps = x.ps) (h2 : x'.su = x.su) (h3 : x'.ch = x.ch) (hf : ∀ z, x.ps.a = some z ∨ x.su.a = some z ∨ x.ch.a = some z → F z.block = none → F' z.block = none) : Apart F' k x' := by
  refine ⟨?_, ?_, ?_, ?_, ?_, ?_, ?_, ?_, ?_⟩
  · rw [h1]; exact fun z hz => hf z (.inl hz) (h.ps z hz)
  · rw [h2]; exact fun z hz => hf z (.inr (.inl hz)) (h.su z hz)
  · rw [h3]; exact fun z hz => hf z (.inr (.inr hz)) (h.ch z hz)
  · rw [h1]; exact h.psk
  · rw [h2]; exact h.suk
  · rw [h3]; exact h.chk
  · rw [h1, h2]; exact h.pu
  · rw [h1, h3]; exact h.pc
  · rw [h2, h3]; exact h.uc
/-- A cell of the box turns. -/
theorem TkB.wr {F B : PHeap} {k : Nat} {t t' : TS} {x x' : TV} (h : TkB F B k t x) (e1 : x'.pn = x.pn) (e2 : x'.ps = x.ps) (e3 : x'.nm = x.nm) (e4 : x'.su = x.su) (e5 : x'.ch = x.ch) (g1 : t'.pn = t.pn) (g2 : t'.ps = t.ps) (g3 : t'.names = t.names) (g4 : t'.sus = t.sus) (g5 : t'.chores = t.chores)
    (ha : x'.am.2.2.2.2.1 = t'.askN) (hw : RdL F iE 1 (who_ x'.am).oa (who_ x'.am).n t'.askW) : TkB F (B.upd k (.cells (cellsT t' x').toArray tTk (0, 0))) k t' x' := by
  have ne : ∀ {oa : Option Addr} {ty : TypeId} {sz n c : Nat} {xs : List Value}, (∀ z, oa = some z → z.block ≠ k) → Owns B ty sz oa n c xs → Owns (B.upd k (.cells (cellsT t' x').toArray tTk (0, 0))) ty sz oa n c xs := fun hn ho => ho.mono fun z o hz hb => by rw [Vx.upd_ne _ _ (hn z hz)]; exact hb
  refine ⟨h.sub.wr h.off, h.off, Bx.new _ _ _ _, ?_, ?_, ?_, ?_, ?_, ?_, h.ap.same e2 e4 e5 fun _ _ h => h, ha, hw⟩
  · rw [e1, g1]; exact h.pn
  · rw [e2, g2]; exact ne h.ap.psk h.ps
  · rw [e3, g3]; exact h.nm
  · rw [e3]; exact h.nmc
  · rw [e4, g4]; exact ne h.ap.suk h.su
  · rw [e5, g5]; exact ne h.ap.chk h.ch
theorem TkB.bk {F B : PHeap} {k : Nat} {t : TS} {x : TV} (h : TkB F B k t x) : B k ≠ none := by
  have := h.bx
  unfold Bx at this
  rw [this]; simp
theorem obK (k i : Nat) : Ob (fldA (at0 k) i ≠ none) := ⟨by simp [at0, fldA]⟩
theorem end_okO {H0 F H : PHeap} {k : Nat} {t : TS} {x : TV} (hF : Sub H0 F) (h : TkB F H k t x) : Triple Tryz.prog 21 #[.pointer (at0 k)] H (fun v H' => v = .slice none 0 0 ∧ TkS H0 H' k t.over ∧ TkB F H' k t.over x) := by
  refine choEnd.vc (at0 k) H _ ⟨obP k, obP k, _, h.bx.put (i := 41) (x := .bool true) (by show 41 < 42; decide), ?_⟩
  have hb := h.wr (t' := t.over) (x' := x) rfl rfl rfl rfl rfl rfl rfl rfl rfl rfl h.an h.aw
  refine ⟨rfl, ⟨F, F, _, x, hF, ⟨Sub.refl _, hb.sub, hb.sub, Sub.refl _, fun q hq => .inl hq⟩, hb, ⟨(fun e => absurd rfl e), (fun e => by cases e), (fun _ e => absurd rfl e), fun e => by cases e⟩⟩, hb⟩
theorem agree_okO {H0 F H : PHeap} {k : Nat} {t : TS} {x : TV} {nm : ByteArray} {force : Bool} {at' : Int} (hF : Sub H0 F) (h : TkB F H k t x) (hp : t.p.ok = true) (h0 : t.at_ ≠ 0 ∨ True) (ha : at' = 2 ∨ at' = 4 ∨ at' = 6) (hov : decide (t.at_ = 0) = decide (at' = 0)) :
    Triple Tryz.prog 23 #[.pointer (at0 k), .string nm, .bool force, jT at'] H (OutT H0 k (t.agree nm force at')) := by
  have rp : Reads H (fldA (at0 k) 0) [vI t.p.n, vI t.p.t, vI t.p.l, vI t.p.w, vI t.p.s, vI t.p.r] := h.bx.readsAt 0 fun j v hv => by
    match j, hv with
    | 0, hv => exact hv
    | 1, hv => exact hv
    | 2, hv => exact hv
    | 3, hv => exact hv
    | 4, hv => exact hv
    | 5, hv => exact hv
    | j + 6, hv => simp at hv
  have p0 : Parts F F H H := ⟨Sub.refl _, h.sub, h.sub, Sub.refl _, fun q hq => .inl hq⟩
  have hok : okCell (jT at') = true := by rcases ha with rfl | rfl | rfl <;> rfl
  refine choAgree.vc (at0 k) nm force (jT at') H _ ⟨H, Sub.refl _, obP k, obP k, _, _, _, _, _, _, rp, obP k, obP k, _, h.bx.fld (i := 6) rfl, (Triple.part p0 (settle_ok (p := t.p) (b := t.ballot) (nm := nm) (force := force) hp) ?_).mono ?_⟩
  · rintro _ A' ⟨_, _, _, _, F1, _, _, g1, _, g2⟩
    exact g1.trans (by obtain ⟨kr, g⟩ := g2; exact g.sub)
  rintro _ H1 ⟨A', ⟨ka, b, n, c, F1, rfl, hka, hF1, hrd, kr, hA⟩, hP⟩
  obtain ⟨_, s2, s3⟩ := Sml.ask (s := init0 t.p t.ballot nm force false (IntKind.i64.wrap (2 * t.ballot))) (m := mask) hp (Nat.zero_le _) (Nat.zero_le _) (Nat.zero_le _) bare_ask
  have hA' : AgK F A' ka kr ((init0 t.p t.ballot nm force false (IntKind.i64.wrap (2 * t.ballot))).ask mask).1 := agK_weak hA hF1 (fun m hm => by cases hm) (fun m hm => by cases hm)
  have b1 := h.bx.sub hP.b
  refine ⟨at0 ka, b, n, c, rfl, obP k, obP k, _, b1.put (i := 10) (x := .pointer (at0 ka)) (by show 10 < 42; decide), obP k, obP k, ?_⟩
  have hb1 := h.wr (t' := t) (x' := { x with a := at0 ka }) rfl rfl rfl rfl rfl rfl rfl rfl rfl rfl h.an h.aw
  have hP1 := Parts.wr (o := .cells (cellsT t { x with a := at0 ka }).toArray tTk (0, 0)) hP h.off h.bk
  have c1 : Bx (H1.upd k (.cells (cellsT t { x with a := at0 ka }).toArray tTk (0, 0))) k tTk (cellsT t { x with a := at0 ka }) := Bx.new _ _ _ _
  refine ⟨_, c1.put (i := 11) (x := .pointer none) (by show 11 < 42; decide), obP k, obP k, ⟨hok⟩, ?_⟩
  have hb2 := hb1.wr (t' := t) (x' := { x with a := at0 ka, r := none }) rfl rfl rfl rfl rfl rfl rfl rfl rfl rfl h.an h.aw
  have hP2 := Parts.wr (o := .cells (cellsT t { x with a := at0 ka, r := none }).toArray tTk (0, 0)) hP1 h.off hb1.bk
  have c2 : Bx ((H1.upd k (.cells (cellsT t { x with a := at0 ka }).toArray tTk (0, 0))).upd k (.cells (cellsT t { x with a := at0 ka, r := none }).toArray tTk (0, 0))) k tTk (cellsT t { x with a := at0 ka, r := none }) := Bx.new _ _ _ _
  refine ⟨_, c2.put (i := 25) (x := jT at') (by show 25 < 42; decide), ?_⟩
  have hb3 := hb2.wr (t' := (t.agree nm force at').1) (x' := { x with a := at0 ka, r := none, j := jT at' }) rfl rfl rfl rfl rfl rfl rfl rfl rfl rfl h.an h.aw
  have hP3 := Parts.wr (o := .cells (cellsT (t.agree nm force at').1 { x with a := at0 ka, r := none, j := jT at' }).toArray tTk (0, 0)) hP2 h.off hb2.bk
  have e3 : (cellsT t { x with a := at0 ka, r := none }).set 25 (jT at') = cellsT (t.agree nm force at').1 { x with a := at0 ka, r := none, j := jT at' } := by
    show cellsT t { x with a := at0 ka, r := none, j := jT at' } = _
    show ((cellsT t { x with a := at0 ka, r := none, j := jT at' }).take 41 ++ [.bool (decide (t.at_ = 0))]) = ((cellsT t { x with a := at0 ka, r := none, j := jT at' }).take 41 ++ [.bool (decide (at' = 0))])
    rw [hov]
  rw [e3]
  refine ⟨⟨b, n, c, ((init0 t.p t.ballot nm force false (IntKind.i64.wrap (2 * t.ballot))).ask mask).2, rfl, hrd.mono (hA.sub.trans hP3.a), fun m hm => (s2 m hm).ok _, strip_bares s2⟩, F, A', _, { x with a := at0 ka, r := none, j := jT at' }, hF, hP3, hb3, ⟨fun _ => rfl, fun _ => ⟨ka, rfl, kr, hA'⟩, fun e => ?_, fun e => ?_⟩⟩
  · have : ((at' == 2 || at' == 4 || at' == 6) : Bool) = false := e
    simp at this
    omega
  · have : at' = 1 := e
    omega
end Go.Cho
namespace Go.Cho
open Go.Vx Go.Vc Go.Proofs Go.Pln Go.Stl Go.Agr
open Go.Hp (rest_ok restL restL_spec restL_len Asc asc_ext has_ok refRest_ok)
open Go.Rnd (takesG insG froms againG OkM AscG RdS Both)
open Go.Txt (sE)
open Go.Page (limL namesL susL susStep cntL sumN names_ noS stateL PgT)
theorem own_rest {H : PHeap} {ty : TypeId} {sz n c : Nat} {oa : Option Addr} {xs : List Value} {k : Nat} (h : Owns H ty sz oa n c xs) (hn : ∀ z, oa = some z → z.block ≠ k) : Owns (rest H [k]) ty sz oa n c xs :=
  h.mono fun z o hz hb => by rw [rest_at (by simpa using hn z hz)]; exact hb
theorem own_off {F P G H : PHeap} {ty : TypeId} {sz n c : Nat} {oa : Option Addr} {xs : List Value} (h : Owns P ty sz oa n c xs) (hf : Off F oa) : Off (grow F P G) oa := fun z hz => by
  subst hz
  obtain ⟨o, ho⟩ := h.blk
  exact grow_off ho (hf z rfl)
theorem planR {F B : PHeap} {k : Nat} {t : TS} {x : TV} (h : TkB F B k t x) : Reads B (fldA (at0 k) 0) [vI t.p.n, vI t.p.t, vI t.p.l, vI t.p.w, vI t.p.s, vI t.p.r] := h.bx.readsAt 0 fun j v hv => by
  match j, hv with
  | 0, hv => exact hv
  | 1, hv => exact hv
  | 2, hv => exact hv
  | 3, hv => exact hv
  | 4, hv => exact hv
  | 5, hv => exact hv
  | j + 6, hv => simp at hv
/-- The task behind a call that was made without its box: what is new is known. -/
theorem TkB.regrow {F H H2 : PHeap} {k : Nat} {t : TS} {x : TV} (h : TkB F H k t x) (hs : Sub (rest H [k]) H2) (hk : H2 k = none) : TkB (grow F (rest H [k]) H2) (H2.upd k (.cells (cellsT t x).toArray tTk (0, 0))) k t x := by
  have hF : Sub F (rest H [k]) := rest_le h.sub (by simpa using h.off)
  have hle := grow_le (G := H2) hF
  have hkF : (grow F (rest H [k]) H2) k = none := by rw [grow_at (rest_none (by simp))]; exact hk
  have up : ∀ {oa : Option Addr} {ty : TypeId} {sz n c : Nat} {xs : List Value}, (∀ z, oa = some z → z.block ≠ k) → Owns H ty sz oa n c xs → Owns (H2.upd k (.cells (cellsT t x).toArray tTk (0, 0))) ty sz oa n c xs := fun hn ho =>
    (own_rest ho hn).mono fun z o hz hb => by rw [Vx.upd_ne _ _ (hn z hz)]; exact hs.le _ _ hb
  refine ⟨(grow_sub hF hs).wr hkF, hkF, Bx.new _ _ _ _, h.pn.mono hle, up h.ap.psk h.ps, h.nm.mono hle, h.nmc, up h.ap.suk h.su, up h.ap.chk h.ch, ⟨?_, ?_, ?_, h.ap.psk, h.ap.suk, h.ap.chk, h.ap.pu, h.ap.pc, h.ap.uc⟩, h.an, h.aw.mono hle⟩
  · exact own_off (H := H) (own_rest h.ps h.ap.psk) h.ap.ps
  · exact own_off (H := H) (own_rest h.su h.ap.suk) h.ap.su
  · exact own_off (H := H) (own_rest h.ch h.ap.chk) h.ap.ch
theorem TkB.mono {F B B' : PHeap} {k : Nat} {t : TS} {x : TV} (h : TkB F B k t x) (hs : Sub B B') : TkB F B' k t x :=
  ⟨h.sub.trans hs, h.off, h.bx.sub hs, h.pn, h.ps.mono fun _ o _ hb => hs.le _ _ hb, h.nm, h.nmc, h.su.mono fun _ o _ hb => hs.le _ _ hb, h.ch.mono fun _ o _ hb => hs.le _ _ hb, h.ap, h.an, h.aw⟩
theorem RdS_less {F P0 P H2 G : PHeap} {k : Nat} {asks : List Msg} {wait : List Int} {got : List (Int × Msg)} {tries : Int} (h : RdS (grow F P H2) (grow F P G) k asks wait got tries) (h0 : Sub F P0) (hp : Sub P0 P) (h2 : Sub P H2) (h3 : Sub H2 G) : RdS (grow F P0 H2) (grow F P0 G) k asks wait got tries := by
  have le : ∀ {X : PHeap}, Sub P X → Sub (grow F P X) (grow F P0 X) := fun {X} hX => ⟨fun q o hq => by
    unfold grow at hq ⊢
    cases e0 : P0 q with
    | some o' => rw [hp.le _ _ e0] at hq; exact hq
    | none =>
      cases e1 : P q with
      | some o' => rw [e1] at hq; have := h0.none e0; simp only at hq; rw [this] at hq; cases hq
      | none => rw [e1] at hq; exact hq⟩
  have off : ∀ {q : Nat} {o : Obj}, grow F P G q = some o → grow F P H2 q = none → grow F P0 H2 q = none := fun {q} {o} hq hn => by
    unfold grow at hq hn ⊢
    cases e1 : P q with
    | some o' => rw [e1] at hq hn; simp only at hq hn; rw [hn] at hq; cases hq
    | none =>
      rw [e1] at hn
      cases e0 : P0 q with
      | some o' => rw [hp.le _ _ e0] at e1; cases e1
      | none => exact hn
  obtain ⟨oa, n, c, ob, m, d, gb, g1, g2, g3, g4, g5, g6, g7, g8⟩ := h.row
  obtain ⟨es, c', q1, _⟩ := g4.out
  have l2 := le h2
  have lG := le (h2.trans h3)
  exact ⟨Rnd.grow_le2 h3, off g1 h.off, oa, n, c, ob, m, d, gb, g1.sub lG, g2.mono l2, g3.mono l2, g4.mono fun o ho => lG.le _ _ ho, off q1 g5, g6, g7, g8⟩
/-- What is said lies in what stays. -/
def OutF (H0 : PHeap) (k : Nat) (r : TS × List Msg) (v : Value) (H' : PHeap) : Prop := ∃ F1, Sub H0 F1 ∧ SaidL r.2 v F1 ∧ TkS F1 H' k r.1
theorem OutF.out {H0 H' : PHeap} {k : Nat} {r : TS × List Msg} {v : Value} (h : OutF H0 k r v H') : OutT H0 k r v H' := by
  obtain ⟨F1, h1, h2, F, A, B, x, g1, g2, g3, g4⟩ := h
  exact ⟨h2.mono (g1.trans (g2.fa.trans g2.a)), F, A, B, x, h1.trans g1, g2, g3, g4⟩
theorem round_okF {H0 F H : PHeap} {k : Nat} {t : TS} {x : TV} {at' : Int} {m : Msg} {to wait : List Int} {oa ob : Option Addr} {n c q d : Nat} (hF : Sub H0 F) (h : TkB F H k t x) (ha : at' = 1 ∨ at' = 3 ∨ at' = 5 ∨ at' = 7) (hov : decide (t.at_ = 0) = decide (at' = 0))
    (r1 : RdL H iE 1 oa n to) (r2 : RdL H iE 1 ob q wait) (hb : ∀ z, ob = some z → z.block ≠ k) (hn : n ≤ 256) (hq : q ≤ 256) (hm : OkM F m) (hk : m.1 = kT at') (h1 : at' = 1 → x.su = pl0 ∧ x.ch = pl0 ∧ t.sus = []) :
    Triple Tryz.prog 60 #[.pointer (at0 k), Rnd.vM m, .slice oa n c, .slice ob q d, jT at'] H (OutF H0 k (t.round at' (strip m) to wait)) := by
  have hok : okCell (jT at') = true := by rcases ha with rfl | rfl | rfl | rfl <;> rfl
  have hl1 := r1.len
  have hsm : strip m = (m.1, m.2.1, m.2.2.1, m.2.2.2.1, m.2.2.2.2.1, m.2.2.2.2.2.1, m.2.2.2.2.2.2.1, m.2.2.2.2.2.2.2.1, m.2.2.2.2.2.2.2.2.1, m.2.2.2.2.2.2.2.2.2.1, bareS m.2.2.2.2.2.2.2.2.2.2.1.l, bareS m.2.2.2.2.2.2.2.2.2.2.2.1.l, bareS m.2.2.2.2.2.2.2.2.2.2.2.2.l) := rfl
  obtain ⟨y1, y2, y3, y4, y5, y6, y7, y8, y9, y10, ⟨ya, yb, yc, yl⟩, ⟨za, zb, zc, zl⟩, ⟨wa, wb, wc, wl⟩⟩ := m
  let M : Int → Msg := fun u => (y1, y2, u, t.ballot, y5, y6, y7, y8, y9, y10, ⟨ya, yb, yc, yl⟩, ⟨za, zb, zc, zl⟩, ⟨wa, wb, wc, wl⟩)
  have hsend : ∀ l : List Int, sendL t.ballot (y1, y2, y3, y4, y5, y6, y7, y8, y9, y10, ⟨ya, yb, yc, yl⟩, ⟨za, zb, zc, zl⟩, ⟨wa, wb, wc, wl⟩) l = l.map M := fun l => rfl
  refine choRound.vc (at0 k) y1 y2 y3 y4 y5 y6 y7 y8 y9 y10 ya yb yc za zb zc wa wb wc oa n c ob q d (jT at') H _ ⟨obP k, obP k, _, h.bx.fld (i := 6) rfl, fun s H' => match s with | [.slice b mm e, .int _ i, v] => 0 ≤ i ∧ i ≤ n ∧ Sub H H' ∧ OwnL H' 52 mE 13 b mm e ((to.take i.toNat).map M) ∧ Off H b ∧ ∃ u, v = .agg (mE (M u)).toArray | _ => False, fun s _ => match s with | [_, .int _ i, _] => (n - i).toNat | _ => 0, ⟨by omega, by omega, Sub.refl _, Owns.nil _ _ 13, Off.none _, y3, rfl⟩, ?_⟩
  rintro b mm e i n35 n36 n37 n38 s39 n40 n41 n42 n43 n44 a45 k46 k47 a48 k49 k50 a51 k52 k53 H54 ⟨i0, i1, s54, ho, hoff, u, hu⟩
  simp only [Value.agg.injEq] at hu
  have hu' := congrArg Array.toList hu.symm
  simp [M, pairE, intE, strE, Sl.E] at hu'
  obtain ⟨rfl, rfl, rfl, rfl, rfl, rfl, rfl, rfl, rfl, rfl, ⟨rfl, rfl, rfl⟩, ⟨rfl, rfl, rfl⟩, rfl, rfl, rfl⟩ := hu'
  obtain ⟨i, rfl⟩ : ∃ j : Nat, i = j := ⟨i.toNat, by omega⟩
  rw [Int.toNat_natCast] at ho
  have hml := (ho.rd (E := mE) (sz := 13) (by omega) Rnd.mLen).len
  rw [List.length_map, List.length_take] at hml
  refine ⟨fun hi => ?_, fun hi => ?_⟩
  · have hi' : i < n := by simpa using hi
    have r54 := r1.mono s54
    obtain ⟨z, hz, hzr⟩ := r54.ex (i := (i : Int)) (by omega) (by omega)
    rw [Int.toNat_natCast] at hz
    rw [Rnd.wrapS (by omega) (by omega)]
    refine ⟨r54.ob (by omega) (by omega), z, hzr, fun k56 hk56 => ?_⟩
    refine append_one Rnd.tM (E := mE) (x := M z) hk56 Rnd.mLen ho rfl (Rnd.mOne _) (by simp [maxLen]; omega) (by omega) ?_
    intro b' e' H' how hf hfr _
    refine ⟨b', mm + 1, e', rfl, ⟨by omega, by omega, hf.sub s54 hoff, ?_, hfr.off s54 hoff, z, rfl⟩, ⟨by simp only; omega⟩⟩
    rw [show ((i : Int) + 1).toNat = i + 1 by omega, List.take_add_one, hz, List.map_append]
    exact how
  · have hi' : ¬ i < n := by simpa using hi
    rw [List.take_of_length_le (by omega)] at ho
    have h54 := h.mono s54
    have hbk : ∀ z, b = some z → z.block ≠ k := hoff.ne h.bx
    have ra := (ho.rd (E := mE) (sz := 13) (by omega) Rnd.mLen).rest (ks := [k]) fun z hz => by simpa using hbk z hz
    have rw' := (r2.mono s54).rest (ks := [k]) fun z hz => by simpa using hb z hz
    have hFr : Sub F (rest H54 [k]) := rest_le h54.sub (by simpa using h.off)
    refine ⟨H54, Sub.refl _, obP k, obP k, obK k 0, _, h54.bx.fld (i := 5) rfl, (callR (Rnd.new2_ok (tries := t.p.r) hFr ra rw' (by omega) (by omega)) h54.bx).mono ?_⟩
    rintro _ H65 ⟨G, ⟨kr, H2, rfl, s2, sG, hR⟩, hG, b65⟩
    have hGk : G k = none := hG.none (rest_none (by simp))
    have hH2k : H2 k = none := sG.none hGk
    have hF0 : Sub F (rest H [k]) := rest_le h.sub (by simpa using h.off)
    have s0 : Sub (rest H [k]) (rest H54 [k]) := rest_mono s54
    have hR := RdS_less hR hF0 s0 s2 sG
    have s2' := s0.trans s2
    have hB := h.regrow s2' hH2k
    have hle := grow_le (G := H2) hF0
    have raF : RdL (grow F (rest H [k]) H2) mE 13 b mm (to.map M) := Rnd.rd_grow2 (ra.mono s2) (hoff.sub (rest_sub _ _))
    have hP : Parts (grow F (rest H [k]) H2) (grow F (rest H [k]) G) (H2.upd k (.cells (cellsT t x).toArray tTk (0, 0))) H65 := by
      refine ⟨Rnd.grow_le2 sG, hB.sub, (grow_sub hF0 (s2'.trans sG)).trans (hG.trans (rest_sub _ _)), ⟨fun r o hr => ?_⟩, fun r hr => ?_⟩
      · by_cases e : r = k
        · rw [e, Vx.upd_eq] at hr; rw [e, ← hr]; exact b65
        · rw [Vx.upd_ne _ _ e] at hr
          exact (hG.trans (rest_sub _ _)).le _ _ (sG.le _ _ hr)
      · cases hp : (rest H [k]) r with
        | some o =>
          have : F r = none := by
            cases hf : F r with
            | none => rfl
            | some o' =>
              have : (grow F (rest H [k]) H2) r = F r := by unfold grow; rw [hp]
              rw [this, hf] at hr; cases hr
          exact .inl (grow_off hp this)
        | none =>
          by_cases e : r = k
          · left; rw [grow_at hp, e]; exact hGk
          · right
            rw [Vx.upd_ne _ _ e]
            rw [grow_at hp] at hr; exact hr
    generalize grow F (rest H [k]) G = A2 at hP hR
    generalize hF2 : grow F (rest H [k]) H2 = F2 at hP hR hB hle raF
    generalize H2.upd k (.cells (cellsT t x).toArray tTk (0, 0)) = B2 at hP hB
    have ra65 : RdL H65 mE 13 b mm (to.map M) := ra.mono (s2.trans (sG.trans (hG.trans (rest_sub _ _))))
    have wr : ∀ {H' : PHeap} {o : Obj}, RdL H' mE 13 b mm (to.map M) → RdL (H'.upd k o) mE 13 b mm (to.map M) := fun hh => hh.frame (ob := at0 k) (fun r o' hr hn => by rw [Vx.upd_ne _ _ (hn _ rfl)]; exact hr) fun z y hz hy => by cases hy; exact hbk z hz
    refine ⟨at0 kr, rfl, obP k, obP k, _, b65.put (i := 10) (x := .pointer none) (by show 10 < 42; decide), obP k, obP k, ?_⟩
    have hb1 := hB.wr (t' := t) (x' := { x with a := none }) rfl rfl rfl rfl rfl rfl rfl rfl rfl rfl h.an (h.aw.mono hle)
    have hP1 := Parts.wr (o := .cells (cellsT t { x with a := none }).toArray tTk (0, 0)) hP hB.off hB.bk
    have c1 : Bx (H65.upd k (.cells (cellsT t { x with a := none }).toArray tTk (0, 0))) k tTk (cellsT t { x with a := none }) := Bx.new _ _ _ _
    have q1 := wr (o := .cells (cellsT t { x with a := none }).toArray tTk (0, 0)) ra65
    have e1 : H65.upd k (.cells ((cellsT t x).set 10 (.pointer none)).toArray tTk (0, 0)) = H65.upd k (.cells (cellsT t { x with a := none }).toArray tTk (0, 0)) := rfl
    rw [e1]
    generalize H65.upd k (.cells (cellsT t { x with a := none }).toArray tTk (0, 0)) = H67 at hP1 c1 q1 ⊢
    generalize B2.upd k (.cells (cellsT t { x with a := none }).toArray tTk (0, 0)) = B3 at hP1 hb1
    refine ⟨_, c1.put (i := 11) (x := .pointer (at0 kr)) (by show 11 < 42; decide), obP k, obP k, ?_⟩
    have hb2 := hb1.wr (t' := t) (x' := { x with a := none, r := at0 kr }) rfl rfl rfl rfl rfl rfl rfl rfl rfl rfl h.an (h.aw.mono hle)
    have hP2 := Parts.wr (o := .cells (cellsT t { x with a := none, r := at0 kr }).toArray tTk (0, 0)) hP1 hb1.off hb1.bk
    have c2 : Bx (H67.upd k (.cells (cellsT t { x with a := none, r := at0 kr }).toArray tTk (0, 0))) k tTk (cellsT t { x with a := none, r := at0 kr }) := Bx.new _ _ _ _
    have q2 := wr (o := .cells (cellsT t { x with a := none, r := at0 kr }).toArray tTk (0, 0)) q1
    have e2 : H67.upd k (.cells ((cellsT t { x with a := none }).set 11 (.pointer (at0 kr))).toArray tTk (0, 0)) = H67.upd k (.cells (cellsT t { x with a := none, r := at0 kr }).toArray tTk (0, 0)) := rfl
    rw [e2]
    generalize H67.upd k (.cells (cellsT t { x with a := none, r := at0 kr }).toArray tTk (0, 0)) = H68 at hP2 c2 q2 ⊢
    generalize B3.upd k (.cells (cellsT t { x with a := none, r := at0 kr }).toArray tTk (0, 0)) = B4 at hP2 hb2
    have w3 := (c2.writes (cellsT t { x with a := none, r := at0 kr, am := M u }) rfl).part (A := (cellsT t { x with a := none, r := at0 kr }).take 12) (l2 := mL (M u)) (B := (cellsT t { x with a := none, r := at0 kr }).drop 25) (old := mL x.am) c2.reads rfl
    refine ⟨_, w3, obP k, obP k, ⟨hok⟩, ?_⟩
    let t3 : TS := { t with askN := y5, askW := yl }
    have hb3 := hb2.wr (t' := t3) (x' := { x with a := none, r := at0 kr, am := M u }) rfl rfl rfl rfl rfl rfl rfl rfl rfl rfl rfl (hm.who.mono hle)
    have hP3 := Parts.wr (o := .cells (cellsT t { x with a := none, r := at0 kr, am := M u }).toArray tTk (0, 0)) hP2 hb2.off hb2.bk
    have c3 : Bx (H68.upd k (.cells (cellsT t { x with a := none, r := at0 kr, am := M u }).toArray tTk (0, 0))) k tTk (cellsT t { x with a := none, r := at0 kr, am := M u }) := Bx.new _ _ _ _
    have q3 := wr (o := .cells (cellsT t { x with a := none, r := at0 kr, am := M u }).toArray tTk (0, 0)) q2
    generalize H68.upd k (.cells (cellsT t { x with a := none, r := at0 kr, am := M u }).toArray tTk (0, 0)) = H69 at hP3 c3 q3 ⊢
    have hb3' : TkB F2 (B4.upd k (.cells (cellsT t { x with a := none, r := at0 kr, am := M u }).toArray tTk (0, 0))) k t3 { x with a := none, r := at0 kr, am := M u } := hb3
    clear hb3
    generalize B4.upd k (.cells (cellsT t { x with a := none, r := at0 kr, am := M u }).toArray tTk (0, 0)) = B5 at hP3 hb3'
    refine ⟨_, c3.put (i := 25) (x := jT at') (by show 25 < 42; decide), ?_⟩
    have hb4 := hb3'.wr (t' := (t.round at' (strip (y1, y2, y3, y4, y5, y6, y7, y8, y9, y10, ⟨ya, yb, yc, yl⟩, ⟨za, zb, zc, zl⟩, ⟨wa, wb, wc, wl⟩)) to wait).1) (x' := { x with a := none, r := at0 kr, am := M u, j := jT at' }) rfl rfl rfl rfl rfl rfl rfl rfl rfl rfl rfl (hm.who.mono hle)
    have hP4 := Parts.wr (o := .cells (cellsT (t.round at' (strip (y1, y2, y3, y4, y5, y6, y7, y8, y9, y10, ⟨ya, yb, yc, yl⟩, ⟨za, zb, zc, zl⟩, ⟨wa, wb, wc, wl⟩)) to wait).1 { x with a := none, r := at0 kr, am := M u, j := jT at' }).toArray tTk (0, 0)) hP3 hb3'.off hb3'.bk
    have q4 := wr (o := .cells (cellsT (t.round at' (strip (y1, y2, y3, y4, y5, y6, y7, y8, y9, y10, ⟨ya, yb, yc, yl⟩, ⟨za, zb, zc, zl⟩, ⟨wa, wb, wc, wl⟩)) to wait).1 { x with a := none, r := at0 kr, am := M u, j := jT at' }).toArray tTk (0, 0)) q3
    have e4 : (cellsT t { x with a := none, r := at0 kr, am := M u }).set 25 (jT at') = cellsT (t.round at' (strip (y1, y2, y3, y4, y5, y6, y7, y8, y9, y10, ⟨ya, yb, yc, yl⟩, ⟨za, zb, zc, zl⟩, ⟨wa, wb, wc, wl⟩)) to wait).1 { x with a := none, r := at0 kr, am := M u, j := jT at' } := by
      show (cellsT t { x with a := none, r := at0 kr, am := M u, j := jT at' }).take 41 ++ [.bool (decide (t.at_ = 0))] = (cellsT t { x with a := none, r := at0 kr, am := M u, j := jT at' }).take 41 ++ [.bool (decide (at' = 0))]
      rw [hov]
    rw [e4]
    have hokA : ∀ z ∈ to.map M, OkM F2 z := fun z hz => by
      obtain ⟨u, _, rfl⟩ := List.mem_map.1 hz
      exact ⟨hm.who.mono hle, hm.names.mono hle, hm.data.mono hle, hm.small⟩
    have hstr : (to.map M).map strip = (t.round at' (strip (y1, y2, y3, y4, y5, y6, y7, y8, y9, y10, ⟨ya, yb, yc, yl⟩, ⟨za, zb, zc, zl⟩, ⟨wa, wb, wc, wl⟩)) to wait).2 := by
      rw [← hsend, strip_send]; rfl
    refine ⟨F2, hF.trans hle, ⟨b, mm, e, _, rfl, raF, hokA, hstr⟩, F2, A2, _, { x with a := none, r := at0 kr, am := M u, j := jT at' }, Sub.refl _, hP4, hb4, ⟨fun _ => rfl, fun e => ?_, fun _ _ => ⟨rfl, hk, kr, to.map M, [], rfl, hR, Rnd.Both.nil, hstr, hokA, fun z hz => by cases hz⟩, h1⟩⟩
    have : ((at' == 2 || at' == 4 || at' == 6) : Bool) = true := e
    simp at this
    omega
theorem round_okO {H0 F H : PHeap} {k : Nat} {t : TS} {x : TV} {at' : Int} {m : Msg} {to wait : List Int} {oa ob : Option Addr} {n c q d : Nat} (hF : Sub H0 F) (h : TkB F H k t x) (ha : at' = 1 ∨ at' = 3 ∨ at' = 5 ∨ at' = 7) (hov : decide (t.at_ = 0) = decide (at' = 0))
    (r1 : RdL H iE 1 oa n to) (r2 : RdL H iE 1 ob q wait) (hb : ∀ z, ob = some z → z.block ≠ k) (hn : n ≤ 256) (hq : q ≤ 256) (hm : OkM F m) (hk : m.1 = kT at') (h1 : at' = 1 → x.su = pl0 ∧ x.ch = pl0 ∧ t.sus = []) :
    Triple Tryz.prog 60 #[.pointer (at0 k), Rnd.vM m, .slice oa n c, .slice ob q d, jT at'] H (OutT H0 k (t.round at' (strip m) to wait)) :=
  (round_okF hF h ha hov r1 r2 hb hn hq hm hk h1).mono fun _ _ ho => ho.out
end Go.Cho
