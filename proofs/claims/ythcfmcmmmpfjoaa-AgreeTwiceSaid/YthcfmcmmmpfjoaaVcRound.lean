/- What is to be shown of each function, in its normal form. Printed by a program of this session's, checked by the kernel. -/
import Derived.Test.YthcfmcmmmpfjoaaE2
import Derived.Test.YthcfmcmmmpfjoaaProg
set_option linter.unusedVariables false
set_option maxRecDepth 100000
namespace Go.Vc
open Go.Vx Go
def newR.cx : Cx := ⟨[15], [], [], []⟩
def asksR.cx : Cx := ⟨[], [], [], []⟩
def takeR.cx : Cx := ⟨[5], [], [], []⟩
def allR.cx : Cx := ⟨[1], [], [], []⟩
def allR1.cx : Cx := ⟨[], [], [], []⟩
def gotR.cx : Cx := ⟨[], [(6, [4], []), (11, [3, 28], [])], [], [(18, [3, 32])]⟩
def tickR.cx : Cx := ⟨[1], [], [], []⟩
def tickR1.cx : Cx := ⟨[4], [], [], []⟩
def cloneM.cx : Cx := ⟨[], [], [], []⟩
def cloneI.cx : Cx := ⟨[], [], [], []⟩
def delFunc.cx : Cx := ⟨[], [(5, [5, 6], [])], [], []⟩
def idxFuncM.cx : Cx := ⟨[], [(2, [8], [])], [], []⟩
def contains.cx : Cx := ⟨[], [], [], []⟩
def index.cx : Cx := ⟨[], [(2, [8], [])], [], []⟩
def contFunc.cx : Cx := ⟨[], [], [], []⟩
def idxFunc.cx : Cx := ⟨[], [(2, [8], [])], [], []⟩
def refNew.cx : Cx := ⟨[], [], [], []⟩
def refHas.cx : Cx := ⟨[], [(2, [5], [])], [], []⟩
def refTake.cx : Cx := ⟨[], [(3, [6, 7], []), (9, [8], [])], [], []⟩
def refAll.cx : Cx := ⟨[], [(2, [3], [])], [], []⟩
def refTick.cx : Cx := ⟨[], [(6, [5, 6], [])], [], []⟩
def sameAll.cx : Cx := ⟨[], [(4, [5], [])], [], []⟩
def sameM.cx : Cx := ⟨[], [], [], []⟩
def farM.cx : Cx := ⟨[], [], [], []⟩
def farSR.cx : Cx := ⟨[], [(2, [3], [])], [], []⟩
def sameInts.cx : Cx := ⟨[], [(4, [5], [])], [], []⟩
def sameB.cx : Cx := ⟨[], [(4, [5], [])], [], []⟩

theorem newR.vc (n1 : Int) (a2 : Option Addr) (k3 : Nat) (k4 : Nat) (a5 : Option Addr) (k6 : Nat) (k7 : Nat) (H : PHeap) (Q : Value → PHeap → Prop)
    (h : Triple Proofs.Try.prog 73 #[Value.slice a2 k3 k4] H fun v8 H9 =>
  ∃ a10 k11 k12,
    v8 = Value.slice a10 k11 k12 ∧
      Triple Proofs.Try.prog 74 #[Value.slice a5 k6 k7] H9 fun v13 H14 =>
        ∃ a15 k16 k17,
        v13 = Value.slice a15 k16 k17 ∧
        EvV Proofs.Try.prog (Instr.makeMap 86 none) H14 fun v18 H19 =>
        ∃ a20,
        v18 = Value.map a20 ∧
        ∀ (k21 : Nat),
        H19 k21 = none →
        Q (Value.pointer (at0 k21))
        (H19.upd k21 (Obj.cells #[Value.slice a10 k11 k12, Value.slice a15 k16 k17, Value.map a20, Value.int IntKind.i64 (maxI n1 0)] 88))) :
    Triple Go.Proofs.Try.prog 44 ([Value.int IntKind.i64 n1, Value.slice a2 k3 k4, Value.slice a5 k6 k7]).toArray H Q :=
  Triple.of_vc newR.cx (by kernel_rfl) h

theorem asksR.vc (a1 : Option Addr) (H : PHeap) (Q : Value → PHeap → Prop)
    (h : (a1.isNone = true → Q (Value.slice none 0 0) H) ∧
  (a1.isNone = false →
    Ob (a1 ≠ none) ∧
      Ob (a1 ≠ none) ∧
        ∃ a2 k3 k4, Reads H (fldA a1 0) [Value.slice a2 k3 k4] ∧ Triple Proofs.Try.prog 73 #[Value.slice a2 k3 k4] H fun v5 H6 => ∃ a7 k8 k9, v5 = Value.slice a7 k8 k9 ∧ Q (Value.slice a7 k8 k9) H6)) :
    Triple Go.Proofs.Try.prog 46 ([Value.pointer a1]).toArray H Q :=
  Triple.of_vc asksR.cx (by kernel_rfl) h

theorem takeR.vc (a1 : Option Addr) (n2 : Int) (n3 : Int) (n4 : Int) (n5 : Int) (s6 : ByteArray) (n7 : Int) (n8 : Int) (n9 : Int) (n10 : Int) (n11 : Int) (a12 : Option Addr) (k13 : Nat) (k14 : Nat) (a15 : Option Addr) (k16 : Nat) (k17 : Nat) (a18 : Option Addr) (k19 : Nat) (k20 : Nat) (H : PHeap) (Q : Value → PHeap → Prop)
    (h : ∃ H21,
  Vx.Sub H21 H ∧
    (a1.isNone = false →
        Ob (a1 ≠ none) ∧
        Ob (a1 ≠ none) ∧
        ∃ a22 k23 k24,
        Reads H21 (fldA a1 1) [Value.slice a22 k23 k24] ∧
        Triple Proofs.Try.prog 48 #[Value.slice a22 k23 k24, Value.int IntKind.i64 n3] H fun v25 H26 =>
        ∃ b27,
        v25 = Value.bool b27 ∧
        ((!b27) = true → Q (Value.bool false) H26) ∧
        ((!b27) = false →
        ∃ H28,
        Vx.Sub H28 H26 ∧
        Ob (a1 ≠ none) ∧
        Ob (a1 ≠ none) ∧
        ∃ a29,
        Reads H28 (fldA a1 2) [Value.map a29] ∧
        LookV Proofs.Try.prog (Instr.lookup 86 (Value.map a29) (Value.int IntKind.i64 n3) true) H28 fun v30 =>
        ∃ n31 n32 n33 n34 s35 n36 n37 n38 n39 n40 a41 k42 k43 a44 k45 k46 a47 k48 k49 b50,
        v30 =
        Value.tuple
        #[Value.agg
        #[Value.int IntKind.i64 n31, Value.int IntKind.i64 n32, Value.int IntKind.i64 n33, Value.int IntKind.i64 n34, Value.string s35,
        Value.int IntKind.i64 n36, Value.int IntKind.i64 n37, Value.int IntKind.i64 n38, Value.int IntKind.i64 n39, Value.int IntKind.i64 n40,
        Value.slice a41 k42 k43, Value.slice a44 k45 k46, Value.slice a47 k48 k49],
        Value.bool b50] ∧
        ∀ (k51 : Nat),
        H26 k51 = none →
        Vx.Sub H28
        (H26.upd k51
        (Obj.cells
        #[Value.int IntKind.i64 0, Value.int IntKind.i64 0, Value.int IntKind.i64 0, Value.int IntKind.i64 0, Value.string ({ data := #[] } : ByteArray),
        Value.int IntKind.i64 0, Value.int IntKind.i64 0, Value.int IntKind.i64 0, Value.int IntKind.i64 0, Value.int IntKind.i64 0,
        Value.slice none 0 0, Value.slice none 0 0, Value.slice none 0 0]
        32)) ∧
        ∃ H52,
        Writes
        (H26.upd k51
        (Obj.cells
        #[Value.int IntKind.i64 0, Value.int IntKind.i64 0, Value.int IntKind.i64 0, Value.int IntKind.i64 0, Value.string ({ data := #[] } : ByteArray),
        Value.int IntKind.i64 0, Value.int IntKind.i64 0, Value.int IntKind.i64 0, Value.int IntKind.i64 0, Value.int IntKind.i64 0,
        Value.slice none 0 0, Value.slice none 0 0, Value.slice none 0 0]
        32))
        H52 (at0 k51)
        [Value.int IntKind.i64 n31, Value.int IntKind.i64 n32, Value.int IntKind.i64 n33, Value.int IntKind.i64 n34, Value.string s35,
        Value.int IntKind.i64 n36, Value.int IntKind.i64 n37, Value.int IntKind.i64 n38, Value.int IntKind.i64 n39, Value.int IntKind.i64 n40,
        Value.slice a41 k42 k43, Value.slice a44 k45 k46, Value.slice a47 k48 k49] ∧
        (b50 = true → Q (Value.bool false) H52) ∧
        (b50 = false →
        ∃ H53,
        Vx.Sub H53 H52 ∧
        Ob (a1 ≠ none) ∧
        Ob (a1 ≠ none) ∧
        ∃ a54,
        Reads H53 (fldA a1 2) [Value.map a54] ∧
        EvU Proofs.Try.prog
        (Instr.mapUpdate 86 (Value.map a54) (Value.int IntKind.i64 n3)
        (Value.agg
        #[Value.int IntKind.i64 n2, Value.int IntKind.i64 n3, Value.int IntKind.i64 n4, Value.int IntKind.i64 n5, Value.string s6,
        Value.int IntKind.i64 n7, Value.int IntKind.i64 n8, Value.int IntKind.i64 n9, Value.int IntKind.i64 n10,
        Value.int IntKind.i64 n11, Value.slice a12 k13 k14, Value.slice a15 k16 k17, Value.slice a18 k19 k20]))
        H52 fun H55 => Q (Value.bool true) H55))) ∧
      (a1.isNone = !false → Q (Value.bool false) H)) :
    Triple Go.Proofs.Try.prog 26 ([Value.pointer a1,
  Value.agg
    #[Value.int IntKind.i64 n2, Value.int IntKind.i64 n3, Value.int IntKind.i64 n4, Value.int IntKind.i64 n5, Value.string s6, Value.int IntKind.i64 n7, Value.int IntKind.i64 n8,
      Value.int IntKind.i64 n9, Value.int IntKind.i64 n10, Value.int IntKind.i64 n11, Value.slice a12 k13 k14, Value.slice a15 k16 k17, Value.slice a18 k19 k20]]).toArray H Q :=
  Triple.of_vc takeR.cx (by kernel_rfl) h

theorem allR.vc (a1 : Option Addr) (H : PHeap) (Q : Value → PHeap → Prop)
    (h : ∀ (k2 : Nat),
  H k2 = none →
    ∃ a3,
      Reads (H.upd k2 (Obj.cells #[Value.pointer a1] 63)) (at0 k2) [Value.pointer a3] ∧
        (a3.isNone = true → Q (Value.bool false) (H.upd k2 (Obj.cells #[Value.pointer a1] 63))) ∧
        (a3.isNone = false →
        ∃ a4,
        Reads (H.upd k2 (Obj.cells #[Value.pointer a1] 63)) (at0 k2) [Value.pointer a4] ∧
        Ob (a4 ≠ none) ∧
        Ob (a4 ≠ none) ∧
        ∃ a5 k6 k7,
        Reads (H.upd k2 (Obj.cells #[Value.pointer a1] 63)) (fldA a4 1) [Value.slice a5 k6 k7] ∧
        Triple Proofs.Try.prog 49 #[Value.slice a5 k6 k7, Value.func (Fn.func 50) #[] #[Value.pointer (at0 k2)]] (H.upd k2 (Obj.cells #[Value.pointer a1] 63))
        fun v8 H9 => ∃ b10, v8 = Value.bool b10 ∧ Q (Value.bool !b10) H9)) :
    Triple Go.Proofs.Try.prog 27 ([Value.pointer a1]).toArray H Q :=
  Triple.of_vc allR.cx (by kernel_rfl) h

theorem allR1.vc (n1 : Int) (a2 : Option Addr) (H : PHeap) (Q : Value → PHeap → Prop)
    (h : ∃ a3,
  Reads H a2 [Value.pointer a3] ∧
    Ob (a3 ≠ none) ∧
      Ob (a3 ≠ none) ∧
        ∃ a4,
        Reads H (fldA a3 2) [Value.map a4] ∧
        LookV Proofs.Try.prog (Instr.lookup 86 (Value.map a4) (Value.int IntKind.i64 n1) true) H fun v5 =>
        ∃ n6 n7 n8 n9 s10 n11 n12 n13 n14 n15 a16 k17 k18 a19 k20 k21 a22 k23 k24 b25,
        v5 =
        Value.tuple
        #[Value.agg
        #[Value.int IntKind.i64 n6, Value.int IntKind.i64 n7, Value.int IntKind.i64 n8, Value.int IntKind.i64 n9, Value.string s10, Value.int IntKind.i64 n11,
        Value.int IntKind.i64 n12, Value.int IntKind.i64 n13, Value.int IntKind.i64 n14, Value.int IntKind.i64 n15, Value.slice a16 k17 k18, Value.slice a19 k20 k21,
        Value.slice a22 k23 k24],
        Value.bool b25] ∧
        Q (Value.bool !b25) H) :
    Triple Go.Proofs.Try.prog 50 ([Value.int IntKind.i64 n1, Value.pointer a2]).toArray H Q :=
  Triple.of_vc allR1.cx (by kernel_rfl) h

theorem gotR.vc (a1 : Option Addr) (H : PHeap) (Q : Value → PHeap → Prop)
    (h : (a1.isNone = true → Q (Value.slice none 0 0) H) ∧
  (a1.isNone = false →
    Ob (a1 ≠ none) ∧
      Ob (a1 ≠ none) ∧
        ∃ a2,
        Reads H (fldA a1 2) [Value.map a2] ∧
        EvV Proofs.Try.prog (Instr.range 86 (Value.map a2)) H fun v3 H4 =>
        ∃ a5,
        v3 = Value.pointer a5 ∧
        ∃ (R6 : Rl) (M7 : Mu),
        R6 [Value.slice none 0 0] H4 ∧
        ∀ (a8 : Option Addr) (k9 k10 : Nat) (H11 : PHeap),
        R6 [Value.slice a8 k9 k10] H11 →
        EvV Proofs.Try.prog (Instr.next (Value.pointer a5) false 0) H11 fun v12 H13 =>
        v12 = Value.tuple #[Value.bool false] ∧
        (false = true →
        EvV Proofs.Try.prog (Instr.entry (Value.pointer a5)) H13 fun v14 H15 =>
        ∃ n16 n17 n18 n19 n20 s21 n22 n23 n24 n25 n26 a27 k28 k29 a30 k31 k32 a33 k34 k35,
        v14 =
        Value.tuple
        #[Value.int IntKind.i64 n16,
        Value.agg
        #[Value.int IntKind.i64 n17, Value.int IntKind.i64 n18, Value.int IntKind.i64 n19, Value.int IntKind.i64 n20, Value.string s21,
        Value.int IntKind.i64 n22, Value.int IntKind.i64 n23, Value.int IntKind.i64 n24, Value.int IntKind.i64 n25, Value.int IntKind.i64 n26,
        Value.slice a27 k28 k29, Value.slice a30 k31 k32, Value.slice a33 k34 k35]] ∧
        ∀ (k36 : Nat),
        H15 k36 = none →
        EvV Proofs.Try.prog (Builtin.append_ #[29, 29] 29 #[Value.slice a8 k9 k10, Value.slice (at0 k36) 1 1])
        (H15.upd k36 (Obj.cells #[Value.int IntKind.i64 n16] 3)) fun v37 H38 =>
        ∃ a39 k40 k41,
        v37 = Value.slice a39 k40 k41 ∧ R6 [Value.slice a39 k40 k41] H38 ∧ Less (M7 [Value.slice a39 k40 k41] H38) (M7 [Value.slice a8 k9 k10] H11)) ∧
        (false = false →
        Triple Proofs.Try.prog 61 #[Value.slice a8 k9 k10] H13 fun v42 H43 =>
        v42 = Value.tuple #[] ∧
        ∃ (R44 : Rl) (M45 : Mu),
        R44 [Value.slice none 0 0, Value.int IntKind.i64 0] H43 ∧
        ∀ (a46 : Option Addr) (k47 k48 : Nat) (n49 : Int) (H50 : PHeap),
        R44 [Value.slice a46 k47 k48, Value.int IntKind.i64 n49] H50 →
        (decide (n49 < (↑k9 : Int)) = true →
        Ob (a8 ≠ none ∧ 0 ≤ n49 ∧ n49 < (↑k9 : Int)) ∧
        ∃ n51,
        Reads H50 (elemA a8 n49 1) [Value.int IntKind.i64 n51] ∧
        Ob (a1 ≠ none) ∧
        Ob (a1 ≠ none) ∧
        ∃ a52,
        Reads H50 (fldA a1 2) [Value.map a52] ∧
        LookV Proofs.Try.prog (Instr.lookup 86 (Value.map a52) (Value.int IntKind.i64 n51) false) H50 fun v53 =>
        ∃ n54 n55 n56 n57 s58 n59 n60 n61 n62 n63 a64 k65 k66 a67 k68 k69 a70 k71 k72,
        v53 =
        Value.agg
        #[Value.int IntKind.i64 n54, Value.int IntKind.i64 n55, Value.int IntKind.i64 n56, Value.int IntKind.i64 n57,
        Value.string s58, Value.int IntKind.i64 n59, Value.int IntKind.i64 n60, Value.int IntKind.i64 n61,
        Value.int IntKind.i64 n62, Value.int IntKind.i64 n63, Value.slice a64 k65 k66, Value.slice a67 k68 k69,
        Value.slice a70 k71 k72] ∧
        ∀ (k73 : Nat),
        H50 k73 = none →
        EvV Proofs.Try.prog
        (Builtin.append_ #[24, 24] 24 #[Value.slice a46 k47 k48, Value.slice (at0 k73) 1 1])
        (H50.upd k73
        (Obj.cells
        #[Value.int IntKind.i64 n54, Value.int IntKind.i64 n55, Value.int IntKind.i64 n56, Value.int IntKind.i64 n57,
        Value.string s58, Value.int IntKind.i64 n59, Value.int IntKind.i64 n60, Value.int IntKind.i64 n61,
        Value.int IntKind.i64 n62, Value.int IntKind.i64 n63, Value.slice a64 k65 k66, Value.slice a67 k68 k69,
        Value.slice a70 k71 k72]
        32))
        fun v74 H75 =>
        ∃ a76 k77 k78,
        v74 = Value.slice a76 k77 k78 ∧
        R44 [Value.slice a76 k77 k78, Value.int IntKind.i64 (IntKind.i64.wrap (n49 + 1))] H75 ∧
        Less (M45 [Value.slice a76 k77 k78, Value.int IntKind.i64 (IntKind.i64.wrap (n49 + 1))] H75)
        (M45 [Value.slice a46 k47 k48, Value.int IntKind.i64 n49] H50)) ∧
        (decide (n49 < (↑k9 : Int)) = false → Q (Value.slice a46 k47 k48) H50)) ∨
        ∃ v79 v80,
        v12 = Value.tuple #[Value.bool true, v79, v80] ∧
        (true = true →
        EvV Proofs.Try.prog (Instr.entry (Value.pointer a5)) H13 fun v81 H82 =>
        ∃ n83 n84 n85 n86 n87 s88 n89 n90 n91 n92 n93 a94 k95 k96 a97 k98 k99 a100 k101 k102,
        v81 =
        Value.tuple
        #[Value.int IntKind.i64 n83,
        Value.agg
        #[Value.int IntKind.i64 n84, Value.int IntKind.i64 n85, Value.int IntKind.i64 n86, Value.int IntKind.i64 n87, Value.string s88,
        Value.int IntKind.i64 n89, Value.int IntKind.i64 n90, Value.int IntKind.i64 n91, Value.int IntKind.i64 n92, Value.int IntKind.i64 n93,
        Value.slice a94 k95 k96, Value.slice a97 k98 k99, Value.slice a100 k101 k102]] ∧
        ∀ (k103 : Nat),
        H82 k103 = none →
        EvV Proofs.Try.prog (Builtin.append_ #[29, 29] 29 #[Value.slice a8 k9 k10, Value.slice (at0 k103) 1 1])
        (H82.upd k103 (Obj.cells #[Value.int IntKind.i64 n83] 3)) fun v104 H105 =>
        ∃ a106 k107 k108,
        v104 = Value.slice a106 k107 k108 ∧
        R6 [Value.slice a106 k107 k108] H105 ∧ Less (M7 [Value.slice a106 k107 k108] H105) (M7 [Value.slice a8 k9 k10] H11)) ∧
        (true = false →
        Triple Proofs.Try.prog 61 #[Value.slice a8 k9 k10] H13 fun v109 H110 =>
        v109 = Value.tuple #[] ∧
        ∃ (R111 : Rl) (M112 : Mu),
        R111 [Value.slice none 0 0, Value.int IntKind.i64 0] H110 ∧
        ∀ (a113 : Option Addr) (k114 k115 : Nat) (n116 : Int) (H117 : PHeap),
        R111 [Value.slice a113 k114 k115, Value.int IntKind.i64 n116] H117 →
        (decide (n116 < (↑k9 : Int)) = true →
        Ob (a8 ≠ none ∧ 0 ≤ n116 ∧ n116 < (↑k9 : Int)) ∧
        ∃ n118,
        Reads H117 (elemA a8 n116 1) [Value.int IntKind.i64 n118] ∧
        Ob (a1 ≠ none) ∧
        Ob (a1 ≠ none) ∧
        ∃ a119,
        Reads H117 (fldA a1 2) [Value.map a119] ∧
        LookV Proofs.Try.prog (Instr.lookup 86 (Value.map a119) (Value.int IntKind.i64 n118) false) H117 fun v120 =>
        ∃ n121 n122 n123 n124 s125 n126 n127 n128 n129 n130 a131 k132 k133 a134 k135 k136 a137 k138 k139,
        v120 =
        Value.agg
        #[Value.int IntKind.i64 n121, Value.int IntKind.i64 n122, Value.int IntKind.i64 n123, Value.int IntKind.i64 n124,
        Value.string s125, Value.int IntKind.i64 n126, Value.int IntKind.i64 n127, Value.int IntKind.i64 n128,
        Value.int IntKind.i64 n129, Value.int IntKind.i64 n130, Value.slice a131 k132 k133, Value.slice a134 k135 k136,
        Value.slice a137 k138 k139] ∧
        ∀ (k140 : Nat),
        H117 k140 = none →
        EvV Proofs.Try.prog
        (Builtin.append_ #[24, 24] 24 #[Value.slice a113 k114 k115, Value.slice (at0 k140) 1 1])
        (H117.upd k140
        (Obj.cells
        #[Value.int IntKind.i64 n121, Value.int IntKind.i64 n122, Value.int IntKind.i64 n123, Value.int IntKind.i64 n124,
        Value.string s125, Value.int IntKind.i64 n126, Value.int IntKind.i64 n127, Value.int IntKind.i64 n128,
        Value.int IntKind.i64 n129, Value.int IntKind.i64 n130, Value.slice a131 k132 k133, Value.slice a134 k135 k136,
        Value.slice a137 k138 k139]
        32))
        fun v141 H142 =>
        ∃ a143 k144 k145,
        v141 = Value.slice a143 k144 k145 ∧
        R111 [Value.slice a143 k144 k145, Value.int IntKind.i64 (IntKind.i64.wrap (n116 + 1))] H142 ∧
        Less (M112 [Value.slice a143 k144 k145, Value.int IntKind.i64 (IntKind.i64.wrap (n116 + 1))] H142)
        (M112 [Value.slice a113 k114 k115, Value.int IntKind.i64 n116] H117)) ∧
        (decide (n116 < (↑k9 : Int)) = false → Q (Value.slice a113 k114 k115) H117)))) :
    Triple Go.Proofs.Try.prog 40 ([Value.pointer a1]).toArray H Q :=
  Triple.of_vc gotR.cx (by kernel_rfl) h

theorem tickR.vc (a1 : Option Addr) (H : PHeap) (Q : Value → PHeap → Prop)
    (h : ∀ (k2 : Nat),
  H k2 = none →
    ∃ a3,
      Reads (H.upd k2 (Obj.cells #[Value.pointer a1] 63)) (at0 k2) [Value.pointer a3] ∧
        (a3.isNone = false →
        ∃ a4,
        Reads (H.upd k2 (Obj.cells #[Value.pointer a1] 63)) (at0 k2) [Value.pointer a4] ∧
        Ob (a4 ≠ none) ∧
        Ob (a4 ≠ none) ∧
        ∃ n5,
        Reads (H.upd k2 (Obj.cells #[Value.pointer a1] 63)) (fldA a4 3) [Value.int IntKind.i64 n5] ∧
        ((n5 == 0) = true → Q (Value.tuple #[Value.slice none 0 0, Value.bool true]) (H.upd k2 (Obj.cells #[Value.pointer a1] 63))) ∧
        ((n5 == 0) = false →
        ∃ a6,
        Reads (H.upd k2 (Obj.cells #[Value.pointer a1] 63)) (at0 k2) [Value.pointer a6] ∧
        Ob (a6 ≠ none) ∧
        Ob (a6 ≠ none) ∧
        ∃ n7,
        Reads (H.upd k2 (Obj.cells #[Value.pointer a1] 63)) (fldA a6 3) [Value.int IntKind.i64 n7] ∧
        Ob (a6 ≠ none) ∧
        Ob (a6 ≠ none) ∧
        ∃ H8,
        Writes (H.upd k2 (Obj.cells #[Value.pointer a1] 63)) H8 (fldA a6 3) [Value.int IntKind.i64 (IntKind.i64.wrap (n7 - 1))] ∧
        ∃ a9,
        Reads H8 (at0 k2) [Value.pointer a9] ∧
        Triple Proofs.Try.prog 46 #[Value.pointer a9] H8 fun v10 H11 =>
        ∃ a12 k13 k14,
        v10 = Value.slice a12 k13 k14 ∧
        Triple Proofs.Try.prog 45 #[Value.slice a12 k13 k14, Value.func (Fn.func 47) #[] #[Value.pointer (at0 k2)]] H11
        fun v15 H16 => ∃ a17 k18 k19, v15 = Value.slice a17 k18 k19 ∧ Q (Value.tuple #[Value.slice a17 k18 k19, Value.bool false]) H16)) ∧
        (a3.isNone = !false → Q (Value.tuple #[Value.slice none 0 0, Value.bool true]) (H.upd k2 (Obj.cells #[Value.pointer a1] 63)))) :
    Triple Go.Proofs.Try.prog 23 ([Value.pointer a1]).toArray H Q :=
  Triple.of_vc tickR.cx (by kernel_rfl) h

theorem tickR1.vc (n1 : Int) (n2 : Int) (n3 : Int) (n4 : Int) (s5 : ByteArray) (n6 : Int) (n7 : Int) (n8 : Int) (n9 : Int) (n10 : Int) (a11 : Option Addr) (k12 : Nat) (k13 : Nat) (a14 : Option Addr) (k15 : Nat) (k16 : Nat) (a17 : Option Addr) (k18 : Nat) (k19 : Nat) (a20 : Option Addr) (H : PHeap) (Q : Value → PHeap → Prop)
    (h : ∃ H21,
  Vx.Sub H21 H ∧
    ∃ a22,
      Reads H21 a20 [Value.pointer a22] ∧
        Ob (a22 ≠ none) ∧
        Ob (a22 ≠ none) ∧
        ∃ a23,
        Reads H21 (fldA a22 2) [Value.map a23] ∧
        LookV Proofs.Try.prog (Instr.lookup 86 (Value.map a23) (Value.int IntKind.i64 n3) true) H21 fun v24 =>
        ∃ n25 n26 n27 n28 s29 n30 n31 n32 n33 n34 a35 k36 k37 a38 k39 k40 a41 k42 k43 b44,
        v24 =
        Value.tuple
        #[Value.agg
        #[Value.int IntKind.i64 n25, Value.int IntKind.i64 n26, Value.int IntKind.i64 n27, Value.int IntKind.i64 n28, Value.string s29, Value.int IntKind.i64 n30,
        Value.int IntKind.i64 n31, Value.int IntKind.i64 n32, Value.int IntKind.i64 n33, Value.int IntKind.i64 n34, Value.slice a35 k36 k37, Value.slice a38 k39 k40,
        Value.slice a41 k42 k43],
        Value.bool b44] ∧
        ∀ (k45 : Nat),
        H k45 = none →
        Vx.Sub H21
        (H.upd k45
        (Obj.cells
        #[Value.int IntKind.i64 0, Value.int IntKind.i64 0, Value.int IntKind.i64 0, Value.int IntKind.i64 0, Value.string ({ data := #[] } : ByteArray), Value.int IntKind.i64 0,
        Value.int IntKind.i64 0, Value.int IntKind.i64 0, Value.int IntKind.i64 0, Value.int IntKind.i64 0, Value.slice none 0 0, Value.slice none 0 0,
        Value.slice none 0 0]
        32)) ∧
        ∃ H46,
        Writes
        (H.upd k45
        (Obj.cells
        #[Value.int IntKind.i64 0, Value.int IntKind.i64 0, Value.int IntKind.i64 0, Value.int IntKind.i64 0, Value.string ({ data := #[] } : ByteArray), Value.int IntKind.i64 0,
        Value.int IntKind.i64 0, Value.int IntKind.i64 0, Value.int IntKind.i64 0, Value.int IntKind.i64 0, Value.slice none 0 0, Value.slice none 0 0,
        Value.slice none 0 0]
        32))
        H46 (at0 k45)
        [Value.int IntKind.i64 n25, Value.int IntKind.i64 n26, Value.int IntKind.i64 n27, Value.int IntKind.i64 n28, Value.string s29, Value.int IntKind.i64 n30,
        Value.int IntKind.i64 n31, Value.int IntKind.i64 n32, Value.int IntKind.i64 n33, Value.int IntKind.i64 n34, Value.slice a35 k36 k37, Value.slice a38 k39 k40,
        Value.slice a41 k42 k43] ∧
        Q (Value.bool b44) H46) :
    Triple Go.Proofs.Try.prog 47 ([Value.agg
    #[Value.int IntKind.i64 n1, Value.int IntKind.i64 n2, Value.int IntKind.i64 n3, Value.int IntKind.i64 n4, Value.string s5, Value.int IntKind.i64 n6, Value.int IntKind.i64 n7,
      Value.int IntKind.i64 n8, Value.int IntKind.i64 n9, Value.int IntKind.i64 n10, Value.slice a11 k12 k13, Value.slice a14 k15 k16, Value.slice a17 k18 k19],
  Value.pointer a20]).toArray H Q :=
  Triple.of_vc tickR1.cx (by kernel_rfl) h

theorem cloneM.vc (a1 : Option Addr) (k2 : Nat) (k3 : Nat) (H : PHeap) (Q : Value → PHeap → Prop)
    (h : (a1.isNone = true → Q (Value.slice none 0 0) H) ∧
  (a1.isNone = false →
    ∀ (k4 : Nat),
      H k4 = none →
        EvV Proofs.Try.prog (Builtin.append_ #[24, 24] 24 #[Value.slice (at0 k4) 0 0, Value.slice a1 k2 k3]) (H.upd k4 (Obj.cells #[] 32)) fun v5 H6 =>
        ∃ a7 k8 k9, v5 = Value.slice a7 k8 k9 ∧ Q (Value.slice a7 k8 k9) H6)) :
    Triple Go.Proofs.Try.prog 73 ([Value.slice a1 k2 k3]).toArray H Q :=
  Triple.of_vc cloneM.cx (by kernel_rfl) h

theorem cloneI.vc (a1 : Option Addr) (k2 : Nat) (k3 : Nat) (H : PHeap) (Q : Value → PHeap → Prop)
    (h : (a1.isNone = true → Q (Value.slice none 0 0) H) ∧
  (a1.isNone = false →
    ∀ (k4 : Nat),
      H k4 = none →
        EvV Proofs.Try.prog (Builtin.append_ #[29, 29] 29 #[Value.slice (at0 k4) 0 0, Value.slice a1 k2 k3]) (H.upd k4 (Obj.cells #[] 3)) fun v5 H6 =>
        ∃ a7 k8 k9, v5 = Value.slice a7 k8 k9 ∧ Q (Value.slice a7 k8 k9) H6)) :
    Triple Go.Proofs.Try.prog 74 ([Value.slice a1 k2 k3]).toArray H Q :=
  Triple.of_vc cloneI.cx (by kernel_rfl) h

theorem delFunc.vc (a1 : Option Addr) (k2 : Nat) (k3 : Nat) (v4 : Value) (H : PHeap) (Q : Value → PHeap → Prop)
    (h : Triple Proofs.Try.prog 75 #[Value.slice a1 k2 k3, v4] H fun v5 H6 =>
  ∃ n7,
    v5 = Value.int IntKind.i64 n7 ∧
      ((n7 == -1) = true → Q (Value.slice a1 k2 k3) H6) ∧
        ((n7 == -1) = false →
        ∃ (R8 : Rl) (M9 : Mu),
        R8 [Value.int IntKind.i64 n7, Value.int IntKind.i64 (IntKind.i64.wrap (n7 + 1))] H6 ∧
        ∀ (n10 n11 : Int) (H12 : PHeap),
        R8 [Value.int IntKind.i64 n10, Value.int IntKind.i64 n11] H12 →
        (decide (n11 < (↑k2 : Int)) = true →
        Ob (a1 ≠ none ∧ 0 ≤ n11 ∧ n11 < (↑k2 : Int)) ∧
        ∃ n13 n14 n15 n16 s17 n18 n19 n20 n21 n22 a23 k24 k25 a26 k27 k28 a29 k30 k31,
        Reads H12 (elemA a1 n11 13)
        [Value.int IntKind.i64 n13, Value.int IntKind.i64 n14, Value.int IntKind.i64 n15, Value.int IntKind.i64 n16, Value.string s17, Value.int IntKind.i64 n18,
        Value.int IntKind.i64 n19, Value.int IntKind.i64 n20, Value.int IntKind.i64 n21, Value.int IntKind.i64 n22, Value.slice a23 k24 k25, Value.slice a26 k27 k28,
        Value.slice a29 k30 k31] ∧
        CallY Proofs.Try.prog v4
        #[Value.agg
        #[Value.int IntKind.i64 n13, Value.int IntKind.i64 n14, Value.int IntKind.i64 n15, Value.int IntKind.i64 n16, Value.string s17, Value.int IntKind.i64 n18,
        Value.int IntKind.i64 n19, Value.int IntKind.i64 n20, Value.int IntKind.i64 n21, Value.int IntKind.i64 n22, Value.slice a23 k24 k25, Value.slice a26 k27 k28,
        Value.slice a29 k30 k31]]
        H12 fun v32 H33 =>
        ∃ b34,
        v32 = Value.bool b34 ∧
        ((!b34) = true →
        Ob (a1 ≠ none ∧ 0 ≤ n10 ∧ n10 < (↑k2 : Int)) ∧
        ∃ H35,
        Writes H33 H35 (elemA a1 n10 13)
        [Value.int IntKind.i64 n13, Value.int IntKind.i64 n14, Value.int IntKind.i64 n15, Value.int IntKind.i64 n16, Value.string s17, Value.int IntKind.i64 n18,
        Value.int IntKind.i64 n19, Value.int IntKind.i64 n20, Value.int IntKind.i64 n21, Value.int IntKind.i64 n22, Value.slice a23 k24 k25,
        Value.slice a26 k27 k28, Value.slice a29 k30 k31] ∧
        R8 [Value.int IntKind.i64 (IntKind.i64.wrap (n10 + 1)), Value.int IntKind.i64 (IntKind.i64.wrap (n11 + 1))] H35 ∧
        Less (M9 [Value.int IntKind.i64 (IntKind.i64.wrap (n10 + 1)), Value.int IntKind.i64 (IntKind.i64.wrap (n11 + 1))] H35)
        (M9 [Value.int IntKind.i64 n10, Value.int IntKind.i64 n11] H12)) ∧
        ((!b34) = false →
        R8 [Value.int IntKind.i64 n10, Value.int IntKind.i64 (IntKind.i64.wrap (n11 + 1))] H33 ∧
        Less (M9 [Value.int IntKind.i64 n10, Value.int IntKind.i64 (IntKind.i64.wrap (n11 + 1))] H33)
        (M9 [Value.int IntKind.i64 n10, Value.int IntKind.i64 n11] H12))) ∧
        (decide (n11 < (↑k2 : Int)) = false →
        Ob (0 ≤ n10 ∧ n10 ≤ (↑k2 : Int) ∧ (↑k2 : Int) ≤ (↑k3 : Int)) ∧
        EvV Proofs.Try.prog (Builtin.clear_ #[24] 0 #[Value.slice (slA a1 n10 k3 13) ((↑k2 : Int).toNat - n10.toNat) (k3 - n10.toNat)]) H12 fun v36 H37 =>
        Ob ((0 : Int) ≤ 0 ∧ 0 ≤ n10 ∧ n10 ≤ (↑k3 : Int)) ∧ Q (Value.slice (slA a1 0 k3 13) (n10.toNat - Int.toNat 0) (k3 - Int.toNat 0)) H37))) :
    Triple Go.Proofs.Try.prog 45 ([Value.slice a1 k2 k3, v4]).toArray H Q :=
  Triple.of_vc delFunc.cx (by kernel_rfl) h

theorem idxFuncM.vc (a1 : Option Addr) (k2 : Nat) (k3 : Nat) (v4 : Value) (H : PHeap) (Q : Value → PHeap → Prop)
    (h : ∃ (R5 : Rl) (M6 : Mu),
  R5 [Value.int IntKind.i64 0] H ∧
    ∀ (n7 : Int) (H8 : PHeap),
      R5 [Value.int IntKind.i64 n7] H8 →
        (decide (n7 < (↑k2 : Int)) = true →
        Ob (a1 ≠ none ∧ 0 ≤ n7 ∧ n7 < (↑k2 : Int)) ∧
        ∃ n9 n10 n11 n12 s13 n14 n15 n16 n17 n18 a19 k20 k21 a22 k23 k24 a25 k26 k27,
        Reads H8 (elemA a1 n7 13)
        [Value.int IntKind.i64 n9, Value.int IntKind.i64 n10, Value.int IntKind.i64 n11, Value.int IntKind.i64 n12, Value.string s13, Value.int IntKind.i64 n14, Value.int IntKind.i64 n15,
        Value.int IntKind.i64 n16, Value.int IntKind.i64 n17, Value.int IntKind.i64 n18, Value.slice a19 k20 k21, Value.slice a22 k23 k24, Value.slice a25 k26 k27] ∧
        CallY Proofs.Try.prog v4
        #[Value.agg
        #[Value.int IntKind.i64 n9, Value.int IntKind.i64 n10, Value.int IntKind.i64 n11, Value.int IntKind.i64 n12, Value.string s13, Value.int IntKind.i64 n14,
        Value.int IntKind.i64 n15, Value.int IntKind.i64 n16, Value.int IntKind.i64 n17, Value.int IntKind.i64 n18, Value.slice a19 k20 k21, Value.slice a22 k23 k24,
        Value.slice a25 k26 k27]]
        H8 fun v28 H29 =>
        ∃ b30,
        v28 = Value.bool b30 ∧
        (b30 = true → Q (Value.int IntKind.i64 n7) H29) ∧
        (b30 = false →
        R5 [Value.int IntKind.i64 (IntKind.i64.wrap (n7 + 1))] H29 ∧ Less (M6 [Value.int IntKind.i64 (IntKind.i64.wrap (n7 + 1))] H29) (M6 [Value.int IntKind.i64 n7] H8))) ∧
        (decide (n7 < (↑k2 : Int)) = false → Q (Value.int IntKind.i64 (-1)) H8)) :
    Triple Go.Proofs.Try.prog 75 ([Value.slice a1 k2 k3, v4]).toArray H Q :=
  Triple.of_vc idxFuncM.cx (by kernel_rfl) h

theorem contains.vc (a1 : Option Addr) (k2 : Nat) (k3 : Nat) (n4 : Int) (H : PHeap) (Q : Value → PHeap → Prop)
    (h : Triple Proofs.Try.prog 76 #[Value.slice a1 k2 k3, Value.int IntKind.i64 n4] H fun v5 H6 => ∃ n7, v5 = Value.int IntKind.i64 n7 ∧ Q (Value.bool (decide (n7 ≥ 0))) H6) :
    Triple Go.Proofs.Try.prog 48 ([Value.slice a1 k2 k3, Value.int IntKind.i64 n4]).toArray H Q :=
  Triple.of_vc contains.cx (by kernel_rfl) h

theorem index.vc (a1 : Option Addr) (k2 : Nat) (k3 : Nat) (n4 : Int) (H : PHeap) (Q : Value → PHeap → Prop)
    (h : ∃ (R5 : Rl) (M6 : Mu),
  R5 [Value.int IntKind.i64 0] H ∧
    ∀ (n7 : Int) (H8 : PHeap),
      R5 [Value.int IntKind.i64 n7] H8 →
        (decide (n7 < (↑k2 : Int)) = true →
        Ob (a1 ≠ none ∧ 0 ≤ n7 ∧ n7 < (↑k2 : Int)) ∧
        ∃ n9,
        Reads H8 (elemA a1 n7 1) [Value.int IntKind.i64 n9] ∧
        ((n4 == n9) = true → Q (Value.int IntKind.i64 n7) H8) ∧
        ((n4 == n9) = false →
        R5 [Value.int IntKind.i64 (IntKind.i64.wrap (n7 + 1))] H8 ∧ Less (M6 [Value.int IntKind.i64 (IntKind.i64.wrap (n7 + 1))] H8) (M6 [Value.int IntKind.i64 n7] H8))) ∧
        (decide (n7 < (↑k2 : Int)) = false → Q (Value.int IntKind.i64 (-1)) H8)) :
    Triple Go.Proofs.Try.prog 76 ([Value.slice a1 k2 k3, Value.int IntKind.i64 n4]).toArray H Q :=
  Triple.of_vc index.cx (by kernel_rfl) h

theorem contFunc.vc (a1 : Option Addr) (k2 : Nat) (k3 : Nat) (v4 : Value) (H : PHeap) (Q : Value → PHeap → Prop)
    (h : Triple Proofs.Try.prog 77 #[Value.slice a1 k2 k3, v4] H fun v5 H6 => ∃ n7, v5 = Value.int IntKind.i64 n7 ∧ Q (Value.bool (decide (n7 ≥ 0))) H6) :
    Triple Go.Proofs.Try.prog 49 ([Value.slice a1 k2 k3, v4]).toArray H Q :=
  Triple.of_vc contFunc.cx (by kernel_rfl) h

theorem idxFunc.vc (a1 : Option Addr) (k2 : Nat) (k3 : Nat) (v4 : Value) (H : PHeap) (Q : Value → PHeap → Prop)
    (h : ∃ (R5 : Rl) (M6 : Mu),
  R5 [Value.int IntKind.i64 0] H ∧
    ∀ (n7 : Int) (H8 : PHeap),
      R5 [Value.int IntKind.i64 n7] H8 →
        (decide (n7 < (↑k2 : Int)) = true →
        Ob (a1 ≠ none ∧ 0 ≤ n7 ∧ n7 < (↑k2 : Int)) ∧
        ∃ n9,
        Reads H8 (elemA a1 n7 1) [Value.int IntKind.i64 n9] ∧
        CallY Proofs.Try.prog v4 #[Value.int IntKind.i64 n9] H8 fun v10 H11 =>
        ∃ b12,
        v10 = Value.bool b12 ∧
        (b12 = true → Q (Value.int IntKind.i64 n7) H11) ∧
        (b12 = false →
        R5 [Value.int IntKind.i64 (IntKind.i64.wrap (n7 + 1))] H11 ∧ Less (M6 [Value.int IntKind.i64 (IntKind.i64.wrap (n7 + 1))] H11) (M6 [Value.int IntKind.i64 n7] H8))) ∧
        (decide (n7 < (↑k2 : Int)) = false → Q (Value.int IntKind.i64 (-1)) H8)) :
    Triple Go.Proofs.Try.prog 77 ([Value.slice a1 k2 k3, v4]).toArray H Q :=
  Triple.of_vc idxFunc.cx (by kernel_rfl) h

theorem refNew.vc (n1 : Int) (a2 : Option Addr) (k3 : Nat) (k4 : Nat) (a5 : Option Addr) (k6 : Nat) (k7 : Nat) (H : PHeap) (Q : Value → PHeap → Prop)
    (h : Q (Value.agg #[Value.slice a2 k3 k4, Value.slice a5 k6 k7, Value.slice none 0 0, Value.int IntKind.i64 (bif decide (n1 < 0) then 0 else n1)]) H) :
    Triple Go.Proofs.Try.prog 53 ([Value.int IntKind.i64 n1, Value.slice a2 k3 k4, Value.slice a5 k6 k7]).toArray H Q :=
  Triple.of_vc refNew.cx (by kernel_rfl) h

theorem refHas.vc (a1 : Option Addr) (k2 : Nat) (k3 : Nat) (a4 : Option Addr) (k5 : Nat) (k6 : Nat) (a7 : Option Addr) (k8 : Nat) (k9 : Nat) (n10 : Int) (n11 : Int) (H : PHeap) (Q : Value → PHeap → Prop)
    (h : ∃ (R12 : Rl) (M13 : Mu),
  R12 [Value.int IntKind.i64 0] H ∧
    ∀ (n14 : Int) (H15 : PHeap),
      R12 [Value.int IntKind.i64 n14] H15 →
        (decide (n14 < (↑k8 : Int)) = true →
        Ob (a7 ≠ none ∧ 0 ≤ n14 ∧ n14 < (↑k8 : Int)) ∧
        Ob (elemA a7 n14 13 ≠ none) ∧
        ∃ n16,
        Reads H15 (fldA (elemA a7 n14 13) 1) [Value.int IntKind.i64 n16] ∧
        ((n16 == n11) = true → Q (Value.bool true) H15) ∧
        ((n16 == n11) = false →
        R12 [Value.int IntKind.i64 (IntKind.i64.wrap (n14 + 1))] H15 ∧ Less (M13 [Value.int IntKind.i64 (IntKind.i64.wrap (n14 + 1))] H15) (M13 [Value.int IntKind.i64 n14] H15))) ∧
        (decide (n14 < (↑k8 : Int)) = false → Q (Value.bool false) H15)) :
    Triple Go.Proofs.Try.prog 59 ([Value.agg #[Value.slice a1 k2 k3, Value.slice a4 k5 k6, Value.slice a7 k8 k9, Value.int IntKind.i64 n10], Value.int IntKind.i64 n11]).toArray H Q :=
  Triple.of_vc refHas.cx (by kernel_rfl) h

theorem refTake.vc (a1 : Option Addr) (k2 : Nat) (k3 : Nat) (a4 : Option Addr) (k5 : Nat) (k6 : Nat) (a7 : Option Addr) (k8 : Nat) (k9 : Nat) (n10 : Int) (n11 : Int) (n12 : Int) (n13 : Int) (n14 : Int) (s15 : ByteArray) (n16 : Int) (n17 : Int) (n18 : Int) (n19 : Int) (n20 : Int) (a21 : Option Addr) (k22 : Nat) (k23 : Nat) (a24 : Option Addr) (k25 : Nat) (k26 : Nat) (a27 : Option Addr) (k28 : Nat) (k29 : Nat) (H : PHeap) (Q : Value → PHeap → Prop)
    (h : ∃ (R30 : Rl) (M31 : Mu),
  R30 [Value.bool false, Value.int IntKind.i64 0] H ∧
    ∀ (b32 : Bool) (n33 : Int) (H34 : PHeap),
      R30 [Value.bool b32, Value.int IntKind.i64 n33] H34 →
        (decide (n33 < (↑k5 : Int)) = true →
        ∃ H35,
        Vx.Sub H35 H34 ∧
        (b32 = false →
        Ob (a4 ≠ none ∧ 0 ≤ n33 ∧ n33 < (↑k5 : Int)) ∧
        ∃ n36,
        Reads H35 (elemA a4 n33 1) [Value.int IntKind.i64 n36] ∧
        R30 [Value.bool (n36 == n12), Value.int IntKind.i64 (IntKind.i64.wrap (n33 + 1))] H34 ∧
        Less (M31 [Value.bool (n36 == n12), Value.int IntKind.i64 (IntKind.i64.wrap (n33 + 1))] H34) (M31 [Value.bool b32, Value.int IntKind.i64 n33] H34)) ∧
        (b32 = !false →
        R30 [Value.bool true, Value.int IntKind.i64 (IntKind.i64.wrap (n33 + 1))] H34 ∧
        Less (M31 [Value.bool true, Value.int IntKind.i64 (IntKind.i64.wrap (n33 + 1))] H34) (M31 [Value.bool b32, Value.int IntKind.i64 n33] H34))) ∧
        (decide (n33 < (↑k5 : Int)) = false →
        ((!b32) = false →
        Triple Proofs.Try.prog 59 #[Value.agg #[Value.slice a1 k2 k3, Value.slice a4 k5 k6, Value.slice a7 k8 k9, Value.int IntKind.i64 n10], Value.int IntKind.i64 n12] H34 fun v37 H38 =>
        ∃ b39,
        v37 = Value.bool b39 ∧
        (b39 = true → Q (Value.tuple #[Value.agg #[Value.slice a1 k2 k3, Value.slice a4 k5 k6, Value.slice a7 k8 k9, Value.int IntKind.i64 n10], Value.bool false]) H38) ∧
        (b39 = false →
        ∃ (R40 : Rl) (M41 : Mu),
        R40 [Value.int IntKind.i64 0] H38 ∧
        ∀ (n42 : Int) (H43 : PHeap),
        R40 [Value.int IntKind.i64 n42] H43 →
        ∃ H44,
        Vx.Sub H44 H43 ∧
        (decide (n42 < (↑k8 : Int)) = true →
        Ob (a7 ≠ none ∧ 0 ≤ n42 ∧ n42 < (↑k8 : Int)) ∧
        Ob (elemA a7 n42 13 ≠ none) ∧
        ∃ n45,
        Reads H44 (fldA (elemA a7 n42 13) 1) [Value.int IntKind.i64 n45] ∧
        (decide (n45 < n12) = true →
        R40 [Value.int IntKind.i64 (IntKind.i64.wrap (n42 + 1))] H43 ∧
        Less (M41 [Value.int IntKind.i64 (IntKind.i64.wrap (n42 + 1))] H43) (M41 [Value.int IntKind.i64 n42] H43)) ∧
        (decide (n45 < n12) = false →
        ∀ (k46 : Nat),
        H43 k46 = none →
        Ob ((0 : Int) ≤ 0 ∧ 0 ≤ n42 ∧ n42 ≤ (↑k9 : Int)) ∧
        EvV Proofs.Try.prog
        (Builtin.append_ #[24, 24] 24
        #[Value.slice (at0 k46) 0 0, Value.slice (slA a7 0 k9 13) (n42.toNat - Int.toNat 0) (k9 - Int.toNat 0)])
        (H43.upd k46 (Obj.cells #[] 32)) fun v47 H48 =>
        ∃ a49 k50 k51,
        v47 = Value.slice a49 k50 k51 ∧
        ∀ (k52 : Nat),
        H48 k52 = none →
        EvV Proofs.Try.prog (Builtin.append_ #[24, 24] 24 #[Value.slice a49 k50 k51, Value.slice (at0 k52) 1 1])
        (H48.upd k52
        (Obj.cells
        #[Value.int IntKind.i64 n11, Value.int IntKind.i64 n12, Value.int IntKind.i64 n13, Value.int IntKind.i64 n14,
        Value.string s15, Value.int IntKind.i64 n16, Value.int IntKind.i64 n17, Value.int IntKind.i64 n18,
        Value.int IntKind.i64 n19, Value.int IntKind.i64 n20, Value.slice a21 k22 k23, Value.slice a24 k25 k26,
        Value.slice a27 k28 k29]
        32))
        fun v53 H54 =>
        ∃ a55 k56 k57,
        v53 = Value.slice a55 k56 k57 ∧
        Ob (0 ≤ n42 ∧ n42 ≤ (↑k8 : Int) ∧ (↑k8 : Int) ≤ (↑k9 : Int)) ∧
        EvV Proofs.Try.prog
        (Builtin.append_ #[24, 24] 24
        #[Value.slice a55 k56 k57, Value.slice (slA a7 n42 k9 13) ((↑k8 : Int).toNat - n42.toNat) (k9 - n42.toNat)])
        H54 fun v58 H59 =>
        ∃ a60 k61 k62,
        v58 = Value.slice a60 k61 k62 ∧
        Q
        (Value.tuple
        #[Value.agg #[Value.slice a1 k2 k3, Value.slice a4 k5 k6, Value.slice a60 k61 k62, Value.int IntKind.i64 n10],
        Value.bool true])
        H59)) ∧
        (decide (n42 < (↑k8 : Int)) = !true →
        ∀ (k63 : Nat),
        H43 k63 = none →
        Ob ((0 : Int) ≤ 0 ∧ 0 ≤ n42 ∧ n42 ≤ (↑k9 : Int)) ∧
        EvV Proofs.Try.prog
        (Builtin.append_ #[24, 24] 24
        #[Value.slice (at0 k63) 0 0, Value.slice (slA a7 0 k9 13) (n42.toNat - Int.toNat 0) (k9 - Int.toNat 0)])
        (H43.upd k63 (Obj.cells #[] 32)) fun v64 H65 =>
        ∃ a66 k67 k68,
        v64 = Value.slice a66 k67 k68 ∧
        ∀ (k69 : Nat),
        H65 k69 = none →
        EvV Proofs.Try.prog (Builtin.append_ #[24, 24] 24 #[Value.slice a66 k67 k68, Value.slice (at0 k69) 1 1])
        (H65.upd k69
        (Obj.cells
        #[Value.int IntKind.i64 n11, Value.int IntKind.i64 n12, Value.int IntKind.i64 n13, Value.int IntKind.i64 n14, Value.string s15,
        Value.int IntKind.i64 n16, Value.int IntKind.i64 n17, Value.int IntKind.i64 n18, Value.int IntKind.i64 n19, Value.int IntKind.i64 n20,
        Value.slice a21 k22 k23, Value.slice a24 k25 k26, Value.slice a27 k28 k29]
        32))
        fun v70 H71 =>
        ∃ a72 k73 k74,
        v70 = Value.slice a72 k73 k74 ∧
        Ob (0 ≤ n42 ∧ n42 ≤ (↑k8 : Int) ∧ (↑k8 : Int) ≤ (↑k9 : Int)) ∧
        EvV Proofs.Try.prog
        (Builtin.append_ #[24, 24] 24
        #[Value.slice a72 k73 k74, Value.slice (slA a7 n42 k9 13) ((↑k8 : Int).toNat - n42.toNat) (k9 - n42.toNat)])
        H71 fun v75 H76 =>
        ∃ a77 k78 k79,
        v75 = Value.slice a77 k78 k79 ∧
        Q
        (Value.tuple
        #[Value.agg #[Value.slice a1 k2 k3, Value.slice a4 k5 k6, Value.slice a77 k78 k79, Value.int IntKind.i64 n10],
        Value.bool true])
        H76))) ∧
        ((!b32) = !false → Q (Value.tuple #[Value.agg #[Value.slice a1 k2 k3, Value.slice a4 k5 k6, Value.slice a7 k8 k9, Value.int IntKind.i64 n10], Value.bool false]) H34))) :
    Triple Go.Proofs.Try.prog 35 ([Value.agg #[Value.slice a1 k2 k3, Value.slice a4 k5 k6, Value.slice a7 k8 k9, Value.int IntKind.i64 n10],
  Value.agg
    #[Value.int IntKind.i64 n11, Value.int IntKind.i64 n12, Value.int IntKind.i64 n13, Value.int IntKind.i64 n14, Value.string s15, Value.int IntKind.i64 n16, Value.int IntKind.i64 n17,
      Value.int IntKind.i64 n18, Value.int IntKind.i64 n19, Value.int IntKind.i64 n20, Value.slice a21 k22 k23, Value.slice a24 k25 k26, Value.slice a27 k28 k29]]).toArray H Q :=
  Triple.of_vc refTake.cx (by kernel_rfl) h

theorem refAll.vc (a1 : Option Addr) (k2 : Nat) (k3 : Nat) (a4 : Option Addr) (k5 : Nat) (k6 : Nat) (a7 : Option Addr) (k8 : Nat) (k9 : Nat) (n10 : Int) (H : PHeap) (Q : Value → PHeap → Prop)
    (h : ∃ (R11 : Rl) (M12 : Mu),
  R11 [Value.int IntKind.i64 0] H ∧
    ∀ (n13 : Int) (H14 : PHeap),
      R11 [Value.int IntKind.i64 n13] H14 →
        (decide (n13 < (↑k5 : Int)) = true →
        ∃ H15,
        Vx.Sub H15 H14 ∧
        Ob (a4 ≠ none ∧ 0 ≤ n13 ∧ n13 < (↑k5 : Int)) ∧
        ∃ n16,
        Reads H15 (elemA a4 n13 1) [Value.int IntKind.i64 n16] ∧
        Triple Proofs.Try.prog 59 #[Value.agg #[Value.slice a1 k2 k3, Value.slice a4 k5 k6, Value.slice a7 k8 k9, Value.int IntKind.i64 n10], Value.int IntKind.i64 n16] H14
        fun v17 H18 =>
        ∃ b19,
        v17 = Value.bool b19 ∧
        ((!b19) = true → Q (Value.bool false) H18) ∧
        ((!b19) = false →
        R11 [Value.int IntKind.i64 (IntKind.i64.wrap (n13 + 1))] H18 ∧
        Less (M12 [Value.int IntKind.i64 (IntKind.i64.wrap (n13 + 1))] H18) (M12 [Value.int IntKind.i64 n13] H14))) ∧
        (decide (n13 < (↑k5 : Int)) = false → Q (Value.bool true) H14)) :
    Triple Go.Proofs.Try.prog 36 ([Value.agg #[Value.slice a1 k2 k3, Value.slice a4 k5 k6, Value.slice a7 k8 k9, Value.int IntKind.i64 n10]]).toArray H Q :=
  Triple.of_vc refAll.cx (by kernel_rfl) h

theorem refTick.vc (a1 : Option Addr) (k2 : Nat) (k3 : Nat) (a4 : Option Addr) (k5 : Nat) (k6 : Nat) (a7 : Option Addr) (k8 : Nat) (k9 : Nat) (n10 : Int) (H : PHeap) (Q : Value → PHeap → Prop)
    (h : ((n10 == 0) = true → Q (Value.tuple #[Value.agg #[Value.slice a1 k2 k3, Value.slice a4 k5 k6, Value.slice a7 k8 k9, Value.int IntKind.i64 n10], Value.slice none 0 0, Value.bool true]) H) ∧
  ((n10 == 0) = false →
    ∃ (R11 : Rl) (M12 : Mu),
      R11 [Value.slice none 0 0, Value.int IntKind.i64 0] H ∧
        ∀ (a13 : Option Addr) (k14 k15 : Nat) (n16 : Int) (H17 : PHeap),
        R11 [Value.slice a13 k14 k15, Value.int IntKind.i64 n16] H17 →
        (decide (n16 < (↑k2 : Int)) = true →
        ∃ H18,
        Vx.Sub H18 H17 ∧
        Ob (a1 ≠ none ∧ 0 ≤ n16 ∧ n16 < (↑k2 : Int)) ∧
        Ob (elemA a1 n16 13 ≠ none) ∧
        ∃ n19,
        Reads H18 (fldA (elemA a1 n16 13) 2) [Value.int IntKind.i64 n19] ∧
        Triple Proofs.Try.prog 59
        #[Value.agg #[Value.slice a1 k2 k3, Value.slice a4 k5 k6, Value.slice a7 k8 k9, Value.int IntKind.i64 (IntKind.i64.wrap (n10 - 1))], Value.int IntKind.i64 n19] H17
        fun v20 H21 =>
        ∃ b22,
        v20 = Value.bool b22 ∧
        ((!b22) = true →
        Ob (a1 ≠ none ∧ 0 ≤ n16 ∧ n16 < (↑k2 : Int)) ∧
        ∃ n23 n24 n25 n26 s27 n28 n29 n30 n31 n32 a33 k34 k35 a36 k37 k38 a39 k40 k41,
        Reads H21 (elemA a1 n16 13)
        [Value.int IntKind.i64 n23, Value.int IntKind.i64 n24, Value.int IntKind.i64 n25, Value.int IntKind.i64 n26, Value.string s27, Value.int IntKind.i64 n28,
        Value.int IntKind.i64 n29, Value.int IntKind.i64 n30, Value.int IntKind.i64 n31, Value.int IntKind.i64 n32, Value.slice a33 k34 k35,
        Value.slice a36 k37 k38, Value.slice a39 k40 k41] ∧
        ∀ (k42 : Nat),
        H21 k42 = none →
        EvV Proofs.Try.prog (Builtin.append_ #[24, 24] 24 #[Value.slice a13 k14 k15, Value.slice (at0 k42) 1 1])
        (H21.upd k42
        (Obj.cells
        #[Value.int IntKind.i64 n23, Value.int IntKind.i64 n24, Value.int IntKind.i64 n25, Value.int IntKind.i64 n26, Value.string s27,
        Value.int IntKind.i64 n28, Value.int IntKind.i64 n29, Value.int IntKind.i64 n30, Value.int IntKind.i64 n31, Value.int IntKind.i64 n32,
        Value.slice a33 k34 k35, Value.slice a36 k37 k38, Value.slice a39 k40 k41]
        32))
        fun v43 H44 =>
        ∃ a45 k46 k47,
        v43 = Value.slice a45 k46 k47 ∧
        R11 [Value.slice a45 k46 k47, Value.int IntKind.i64 (IntKind.i64.wrap (n16 + 1))] H44 ∧
        Less (M12 [Value.slice a45 k46 k47, Value.int IntKind.i64 (IntKind.i64.wrap (n16 + 1))] H44)
        (M12 [Value.slice a13 k14 k15, Value.int IntKind.i64 n16] H17)) ∧
        ((!b22) = false →
        R11 [Value.slice a13 k14 k15, Value.int IntKind.i64 (IntKind.i64.wrap (n16 + 1))] H21 ∧
        Less (M12 [Value.slice a13 k14 k15, Value.int IntKind.i64 (IntKind.i64.wrap (n16 + 1))] H21) (M12 [Value.slice a13 k14 k15, Value.int IntKind.i64 n16] H17))) ∧
        (decide (n16 < (↑k2 : Int)) = false →
        Q
        (Value.tuple
        #[Value.agg #[Value.slice a1 k2 k3, Value.slice a4 k5 k6, Value.slice a7 k8 k9, Value.int IntKind.i64 (IntKind.i64.wrap (n10 - 1))], Value.slice a13 k14 k15, Value.bool false])
        H17))) :
    Triple Go.Proofs.Try.prog 33 ([Value.agg #[Value.slice a1 k2 k3, Value.slice a4 k5 k6, Value.slice a7 k8 k9, Value.int IntKind.i64 n10]]).toArray H Q :=
  Triple.of_vc refTick.cx (by kernel_rfl) h

theorem sameAll.vc (a1 : Option Addr) (k2 : Nat) (k3 : Nat) (a4 : Option Addr) (k5 : Nat) (k6 : Nat) (H : PHeap) (Q : Value → PHeap → Prop)
    (h : (((↑k2 : Int) != (↑k5 : Int)) = true → Q (Value.bool false) H) ∧
  (((↑k2 : Int) != (↑k5 : Int)) = false →
    ∃ (R7 : Rl) (M8 : Mu),
      R7 [Value.int IntKind.i64 0] H ∧
        ∀ (n9 : Int) (H10 : PHeap),
        R7 [Value.int IntKind.i64 n9] H10 →
        (decide (n9 < (↑k2 : Int)) = true →
        ∃ H11,
        Vx.Sub H11 H10 ∧
        Ob (a1 ≠ none ∧ 0 ≤ n9 ∧ n9 < (↑k2 : Int)) ∧
        ∃ n12 n13 n14 n15 s16 n17 n18 n19 n20 n21 a22 k23 k24 a25 k26 k27 a28 k29 k30,
        Reads H11 (elemA a1 n9 13)
        [Value.int IntKind.i64 n12, Value.int IntKind.i64 n13, Value.int IntKind.i64 n14, Value.int IntKind.i64 n15, Value.string s16, Value.int IntKind.i64 n17,
        Value.int IntKind.i64 n18, Value.int IntKind.i64 n19, Value.int IntKind.i64 n20, Value.int IntKind.i64 n21, Value.slice a22 k23 k24, Value.slice a25 k26 k27,
        Value.slice a28 k29 k30] ∧
        Ob (a4 ≠ none ∧ 0 ≤ n9 ∧ n9 < (↑k5 : Int)) ∧
        ∃ n31 n32 n33 n34 s35 n36 n37 n38 n39 n40 a41 k42 k43 a44 k45 k46 a47 k48 k49,
        Reads H11 (elemA a4 n9 13)
        [Value.int IntKind.i64 n31, Value.int IntKind.i64 n32, Value.int IntKind.i64 n33, Value.int IntKind.i64 n34, Value.string s35, Value.int IntKind.i64 n36,
        Value.int IntKind.i64 n37, Value.int IntKind.i64 n38, Value.int IntKind.i64 n39, Value.int IntKind.i64 n40, Value.slice a41 k42 k43, Value.slice a44 k45 k46,
        Value.slice a47 k48 k49] ∧
        Triple Proofs.Try.prog 31
        #[Value.agg
        #[Value.int IntKind.i64 n12, Value.int IntKind.i64 n13, Value.int IntKind.i64 n14, Value.int IntKind.i64 n15, Value.string s16, Value.int IntKind.i64 n17,
        Value.int IntKind.i64 n18, Value.int IntKind.i64 n19, Value.int IntKind.i64 n20, Value.int IntKind.i64 n21, Value.slice a22 k23 k24, Value.slice a25 k26 k27,
        Value.slice a28 k29 k30],
        Value.agg
        #[Value.int IntKind.i64 n31, Value.int IntKind.i64 n32, Value.int IntKind.i64 n33, Value.int IntKind.i64 n34, Value.string s35, Value.int IntKind.i64 n36,
        Value.int IntKind.i64 n37, Value.int IntKind.i64 n38, Value.int IntKind.i64 n39, Value.int IntKind.i64 n40, Value.slice a41 k42 k43, Value.slice a44 k45 k46,
        Value.slice a47 k48 k49]]
        H10 fun v50 H51 =>
        ∃ b52,
        v50 = Value.bool b52 ∧
        ((!b52) = true → Q (Value.bool false) H51) ∧
        ((!b52) = false →
        R7 [Value.int IntKind.i64 (IntKind.i64.wrap (n9 + 1))] H51 ∧
        Less (M8 [Value.int IntKind.i64 (IntKind.i64.wrap (n9 + 1))] H51) (M8 [Value.int IntKind.i64 n9] H10))) ∧
        (decide (n9 < (↑k2 : Int)) = false → Q (Value.bool true) H10))) :
    Triple Go.Proofs.Try.prog 14 ([Value.slice a1 k2 k3, Value.slice a4 k5 k6]).toArray H Q :=
  Triple.of_vc sameAll.cx (by kernel_rfl) h

theorem sameM.vc (n1 : Int) (n2 : Int) (n3 : Int) (n4 : Int) (s5 : ByteArray) (n6 : Int) (n7 : Int) (n8 : Int) (n9 : Int) (n10 : Int) (a11 : Option Addr) (k12 : Nat) (k13 : Nat) (a14 : Option Addr) (k15 : Nat) (k16 : Nat) (a17 : Option Addr) (k18 : Nat) (k19 : Nat) (n20 : Int) (n21 : Int) (n22 : Int) (n23 : Int) (s24 : ByteArray) (n25 : Int) (n26 : Int) (n27 : Int) (n28 : Int) (n29 : Int) (a30 : Option Addr) (k31 : Nat) (k32 : Nat) (a33 : Option Addr) (k34 : Nat) (k35 : Nat) (a36 : Option Addr) (k37 : Nat) (k38 : Nat) (H : PHeap) (Q : Value → PHeap → Prop)
    (h : ∀ (k39 : Nat),
  H k39 = none →
    ∀ (k40 : Nat),
      H.upd k39
        (Obj.cells
        #[Value.int IntKind.i64 n1, Value.int IntKind.i64 n2, Value.int IntKind.i64 n3, Value.int IntKind.i64 n4, Value.int IntKind.i64 n6, Value.int IntKind.i64 n7, Value.int IntKind.i64 n8,
        Value.int IntKind.i64 n9, Value.int IntKind.i64 n10]
        3)
        k40 =
        none →
        Triple Proofs.Try.prog 37 #[Value.slice (at0 k39) 9 9, Value.slice (at0 k40) 9 9]
        ((H.upd k39
        (Obj.cells
        #[Value.int IntKind.i64 n1, Value.int IntKind.i64 n2, Value.int IntKind.i64 n3, Value.int IntKind.i64 n4, Value.int IntKind.i64 n6, Value.int IntKind.i64 n7,
        Value.int IntKind.i64 n8, Value.int IntKind.i64 n9, Value.int IntKind.i64 n10]
        3)).upd
        k40
        (Obj.cells
        #[Value.int IntKind.i64 n20, Value.int IntKind.i64 n21, Value.int IntKind.i64 n22, Value.int IntKind.i64 n23, Value.int IntKind.i64 n25, Value.int IntKind.i64 n26,
        Value.int IntKind.i64 n27, Value.int IntKind.i64 n28, Value.int IntKind.i64 n29]
        3))
        fun v41 H42 =>
        ∃ b43,
        v41 = Value.bool b43 ∧
        (b43 = true →
        (eqS s5 s24 = true →
        Triple Proofs.Try.prog 37 #[Value.slice a11 k12 k13, Value.slice a30 k31 k32] H42 fun v44 H45 =>
        ∃ b46,
        v44 = Value.bool b46 ∧
        (b46 = true →
        Triple Proofs.Try.prog 55 #[Value.slice a14 k15 k16, Value.slice a33 k34 k35] H45 fun v47 H48 =>
        ∃ b49,
        v47 = Value.bool b49 ∧
        (b49 = true →
        Triple Proofs.Try.prog 56 #[Value.slice a17 k18 k19, Value.slice a36 k37 k38] H48 fun v50 H51 => ∃ b52, v50 = Value.bool b52 ∧ Q (Value.bool b52) H51) ∧
        (b49 = !true → Q (Value.bool false) H48)) ∧
        (b46 = !true → Q (Value.bool false) H45)) ∧
        (eqS s5 s24 = !true → Q (Value.bool false) H42)) ∧
        (b43 = !true → Q (Value.bool false) H42)) :
    Triple Go.Proofs.Try.prog 31 ([Value.agg
    #[Value.int IntKind.i64 n1, Value.int IntKind.i64 n2, Value.int IntKind.i64 n3, Value.int IntKind.i64 n4, Value.string s5, Value.int IntKind.i64 n6, Value.int IntKind.i64 n7,
      Value.int IntKind.i64 n8, Value.int IntKind.i64 n9, Value.int IntKind.i64 n10, Value.slice a11 k12 k13, Value.slice a14 k15 k16, Value.slice a17 k18 k19],
  Value.agg
    #[Value.int IntKind.i64 n20, Value.int IntKind.i64 n21, Value.int IntKind.i64 n22, Value.int IntKind.i64 n23, Value.string s24, Value.int IntKind.i64 n25, Value.int IntKind.i64 n26,
      Value.int IntKind.i64 n27, Value.int IntKind.i64 n28, Value.int IntKind.i64 n29, Value.slice a30 k31 k32, Value.slice a33 k34 k35, Value.slice a36 k37 k38]]).toArray H Q :=
  Triple.of_vc sameM.cx (by kernel_rfl) h

theorem farM.vc (n1 : Int) (n2 : Int) (n3 : Int) (n4 : Int) (s5 : ByteArray) (n6 : Int) (n7 : Int) (n8 : Int) (n9 : Int) (n10 : Int) (a11 : Option Addr) (k12 : Nat) (k13 : Nat) (a14 : Option Addr) (k15 : Nat) (k16 : Nat) (a17 : Option Addr) (k18 : Nat) (k19 : Nat) (H : PHeap) (Q : Value → PHeap → Prop)
    (h : (decide ((↑s5.size : Int) > 40) = false →
    (decide ((↑k12 : Int) > 300) = false →
        (decide ((↑k15 : Int) > 20) = false →
        (decide ((↑k18 : Int) > 300) = false → Triple Proofs.Try.prog 38 #[Value.slice a14 k15 k16] H fun v20 H21 => ∃ b22, v20 = Value.bool b22 ∧ Q (Value.bool b22) H21) ∧
        (decide ((↑k18 : Int) > 300) = !false → Q (Value.bool true) H)) ∧
        (decide ((↑k15 : Int) > 20) = !false → Q (Value.bool true) H)) ∧
      (decide ((↑k12 : Int) > 300) = !false → Q (Value.bool true) H)) ∧
  (decide ((↑s5.size : Int) > 40) = !false → Q (Value.bool true) H)) :
    Triple Go.Proofs.Try.prog 18 ([Value.agg
    #[Value.int IntKind.i64 n1, Value.int IntKind.i64 n2, Value.int IntKind.i64 n3, Value.int IntKind.i64 n4, Value.string s5, Value.int IntKind.i64 n6, Value.int IntKind.i64 n7,
      Value.int IntKind.i64 n8, Value.int IntKind.i64 n9, Value.int IntKind.i64 n10, Value.slice a11 k12 k13, Value.slice a14 k15 k16, Value.slice a17 k18 k19]]).toArray H Q :=
  Triple.of_vc farM.cx (by kernel_rfl) h

theorem farSR.vc (a1 : Option Addr) (k2 : Nat) (k3 : Nat) (H : PHeap) (Q : Value → PHeap → Prop)
    (h : ∃ (R4 : Rl) (M5 : Mu),
  R4 [Value.int IntKind.i64 0] H ∧
    ∀ (n6 : Int) (H7 : PHeap),
      R4 [Value.int IntKind.i64 n6] H7 →
        ((bif decide (n6 < (↑k2 : Int)) then decide (n6 < 100) else false) = true →
        Ob (a1 ≠ none ∧ 0 ≤ n6 ∧ n6 < (↑k2 : Int)) ∧
        ∃ s8,
        Reads H7 (elemA a1 n6 1) [Value.string s8] ∧
        (decide ((↑s8.size : Int) > 40) = true → Q (Value.bool true) H7) ∧
        (decide ((↑s8.size : Int) > 40) = false →
        R4 [Value.int IntKind.i64 (IntKind.i64.wrap (n6 + 1))] H7 ∧ Less (M5 [Value.int IntKind.i64 (IntKind.i64.wrap (n6 + 1))] H7) (M5 [Value.int IntKind.i64 n6] H7))) ∧
        ((bif decide (n6 < (↑k2 : Int)) then decide (n6 < 100) else false) = false → Q (Value.bool (decide ((↑k2 : Int) > 60))) H7)) :
    Triple Go.Proofs.Try.prog 38 ([Value.slice a1 k2 k3]).toArray H Q :=
  Triple.of_vc farSR.cx (by kernel_rfl) h

theorem sameInts.vc (a1 : Option Addr) (k2 : Nat) (k3 : Nat) (a4 : Option Addr) (k5 : Nat) (k6 : Nat) (H : PHeap) (Q : Value → PHeap → Prop)
    (h : (((↑k2 : Int) != (↑k5 : Int)) = true → Q (Value.bool false) H) ∧
  (((↑k2 : Int) != (↑k5 : Int)) = false →
    ∃ (R7 : Rl) (M8 : Mu),
      R7 [Value.int IntKind.i64 0] H ∧
        ∀ (n9 : Int) (H10 : PHeap),
        R7 [Value.int IntKind.i64 n9] H10 →
        (decide (n9 < (↑k2 : Int)) = true →
        ∃ H11,
        Vx.Sub H11 H10 ∧
        Ob (a1 ≠ none ∧ 0 ≤ n9 ∧ n9 < (↑k2 : Int)) ∧
        ∃ n12,
        Reads H11 (elemA a1 n9 1) [Value.int IntKind.i64 n12] ∧
        Ob (a4 ≠ none ∧ 0 ≤ n9 ∧ n9 < (↑k5 : Int)) ∧
        ∃ n13,
        Reads H11 (elemA a4 n9 1) [Value.int IntKind.i64 n13] ∧
        ((n12 != n13) = true → Q (Value.bool false) H10) ∧
        ((n12 != n13) = false →
        R7 [Value.int IntKind.i64 (IntKind.i64.wrap (n9 + 1))] H10 ∧
        Less (M8 [Value.int IntKind.i64 (IntKind.i64.wrap (n9 + 1))] H10) (M8 [Value.int IntKind.i64 n9] H10))) ∧
        (decide (n9 < (↑k2 : Int)) = false → Q (Value.bool true) H10))) :
    Triple Go.Proofs.Try.prog 37 ([Value.slice a1 k2 k3, Value.slice a4 k5 k6]).toArray H Q :=
  Triple.of_vc sameInts.cx (by kernel_rfl) h

theorem sameB.vc (a1 : Option Addr) (k2 : Nat) (k3 : Nat) (a4 : Option Addr) (k5 : Nat) (k6 : Nat) (H : PHeap) (Q : Value → PHeap → Prop)
    (h : (((↑k2 : Int) != (↑k5 : Int)) = true → Q (Value.bool false) H) ∧
  (((↑k2 : Int) != (↑k5 : Int)) = false →
    ∃ (R7 : Rl) (M8 : Mu),
      R7 [Value.int IntKind.i64 0] H ∧
        ∀ (n9 : Int) (H10 : PHeap),
        R7 [Value.int IntKind.i64 n9] H10 →
        (decide (n9 < (↑k2 : Int)) = true →
        ∃ H11,
        Vx.Sub H11 H10 ∧
        Ob (a1 ≠ none ∧ 0 ≤ n9 ∧ n9 < (↑k2 : Int)) ∧
        ∃ n12,
        Reads H11 (elemA a1 n9 1) [Value.int IntKind.u8 n12] ∧
        Ob (a4 ≠ none ∧ 0 ≤ n9 ∧ n9 < (↑k5 : Int)) ∧
        ∃ n13,
        Reads H11 (elemA a4 n9 1) [Value.int IntKind.u8 n13] ∧
        ((n12 != n13) = true → Q (Value.bool false) H10) ∧
        ((n12 != n13) = false →
        R7 [Value.int IntKind.i64 (IntKind.i64.wrap (n9 + 1))] H10 ∧
        Less (M8 [Value.int IntKind.i64 (IntKind.i64.wrap (n9 + 1))] H10) (M8 [Value.int IntKind.i64 n9] H10))) ∧
        (decide (n9 < (↑k2 : Int)) = false → Q (Value.bool true) H10))) :
    Triple Go.Proofs.Try.prog 56 ([Value.slice a1 k2 k3, Value.slice a4 k5 k6]).toArray H Q :=
  Triple.of_vc sameB.cx (by kernel_rfl) h

end Go.Vc
