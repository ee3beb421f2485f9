/- What is to be shown of each function, in its normal form.  · Messages, and the contracts of the library's functions on slices of them. · The contract of a search through numbers by a function. · The kit's contracts of library functions, at this program: written by the kit's tools. · The contracts of a round's methods. · The contracts of a round's methods: Got, Tick; messages that are the same. · What is to be shown of each function, in its normal form.  · The contract of a round's tick; messages that are the same, or too much. -/
import Derived.Test.YtajkbeifgghpmaaGreatProg
import Derived.Shelf.Sort.Plain
import Derived.Shelf.Slices.In.SortNone
import Derived.Test.YtajkbeifgghpmaaGreatCPk03
set_option linter.unusedVariables false
set_option maxRecDepth 100000
namespace Go.Vc
open Go.Vx Go Go.Proofs.Tryz
def newR.cx : Cx := ⟨[15], [], [], []⟩
def asksR.cx : Cx := ⟨[], [], [], []⟩
def takeR.cx : Cx := ⟨[5], [], [], []⟩
def allR.cx : Cx := ⟨[1], [], [], []⟩
def allR1.cx : Cx := ⟨[], [], [], []⟩
def gotR.cx : Cx := ⟨[], [(6, [4], []), (11, [3, 28], [])], [], [(18, [3, 52])]⟩
def tickR.cx : Cx := ⟨[1], [], [], []⟩
def tickR1.cx : Cx := ⟨[4], [], [], []⟩
def cloneM.cx : Cx := ⟨[], [], [], []⟩
def cloneI.cx : Cx := ⟨[], [], [], []⟩
def delFunc.cx : Cx := ⟨[], [(5, [5, 6], [])], [], []⟩
def idxFuncM.cx : Cx := ⟨[], [(2, [8], [])], [], []⟩
def contains.cx : Cx := ⟨[], [], [], []⟩
def index.cx : Cx := ⟨[], [(2, [8], [])], [], []⟩
def contFunc.cx : Cx := ⟨[], [], [], []⟩
def idxFunc.cx : Cx := ⟨[], [(2, [8], [])], [], []⟩
def refNew.cx : Cx := ⟨[], [], [], []⟩
def refHas.cx : Cx := ⟨[], [(2, [5], [])], [], []⟩
def refTake.cx : Cx := ⟨[], [(3, [6, 7], []), (9, [8], [])], [], []⟩
def refAll.cx : Cx := ⟨[], [(2, [3], [])], [], []⟩
def refTick.cx : Cx := ⟨[], [(6, [5, 6], [])], [], []⟩
def sameAll.cx : Cx := ⟨[], [(4, [5], [])], [], []⟩
def sameM.cx : Cx := ⟨[], [], [], []⟩
def farM.cx : Cx := ⟨[], [], [], []⟩
def farSR.cx : Cx := ⟨[], [(2, [3], [])], [], []⟩
def sameInts.cx : Cx := ⟨[], [(4, [5], [])], [], []⟩
def sameB.cx : Cx := ⟨[], [(4, [5], [])], [], []⟩
theorem newR.vc (n1 : Int) (a2 : Option Addr) (k3 k4 : Nat) (a5 : Option Addr) (k6 k7 : Nat) (H : PHeap) (Q : Value -> PHeap -> Prop)
 (h : Triple prog 106 #[sw a2 k3 k4] H fun v8 H9 => ∃ a10 k11 k12, v8 = sw a10 k11 k12 /\ Triple prog 133 #[sw a5 k6 k7] H9 fun v13 H14 => ∃ a15 k16 k17, v13 = sw a15 k16 k17 /\
 EvV prog (Instr.makeMap 117 none) H14 fun v18 H19 => ∃ a20, v18 = Value.map a20 /\ ∀ (k21 : Nat), H19 k21 = none -> Q (.pointer (at0 k21))
 (H19.upd k21 (Obj.cells #[sw a10 k11 k12, sw a15 k16 k17, Value.map a20, iw (maxI n1 0)] 119))) : Triple prog 100 ([iw n1, sw a2 k3 k4, sw a5 k6 k7]).toArray H Q := Triple.of_vc newR.cx (by kernel_rfl) h
theorem asksR.vc (a1 : Option Addr) (H : PHeap) (Q : Value -> PHeap -> Prop)
 (h : (a1.isNone = true -> Q (sw none 0 0) H) /\ (a1.isNone = false -> Ob (a1 ≠ none) /\ Ob (a1 ≠ none) /\
 ∃ a2 k3 k4, Reads H (fldA a1 0) [sw a2 k3 k4] /\ Triple prog 106 #[sw a2 k3 k4] H fun v5 H6 => ∃ a7 k8 k9, v5 = sw a7 k8 k9 /\ Q (sw a7 k8 k9) H6)) : Triple prog 71 ([.pointer a1]).toArray H Q :=
 Triple.of_vc asksR.cx (by kernel_rfl) h
theorem takeR.vc (a1 : Option Addr) (n2 n3 n4 n5 : Int) (s6 : ByteArray) (n7 n8 n9 n10 n11 : Int) (a12 : Option Addr) (k13 k14 : Nat) (a15 : Option Addr) (k16 k17 : Nat) (a18 : Option Addr) (k19 k20 : Nat) (H : PHeap) (Q : Value -> PHeap -> Prop)
 (h : ∃ H21, Vx.Sub H21 H /\ (a1.isNone = false -> Ob (a1 ≠ none) /\ Ob (a1 ≠ none) /\ ∃ a22 k23 k24, Reads H21 (fldA a1 1) [sw a22 k23 k24] /\ Triple prog 59 #[sw a22 k23 k24, iw n3] H fun v25 H26 => ∃ b27,
 v25 = .bool b27 /\ ((!b27) = true -> Q (.bool false) H26) /\ ((!b27) = false -> ∃ H28, Vx.Sub H28 H26 /\ Ob (a1 ≠ none) /\ Ob (a1 ≠ none) /\ ∃ a29, Reads H28 (fldA a1 2) [Value.map a29] /\
 LookV prog (Instr.lookup 117 (Value.map a29) (iw n3) true) H28 fun v30 => ∃ n31 n32 n33 n34 s35 n36 n37 n38 n39 n40 a41 k42 k43 a44 k45 k46 a47 k48 k49 b50, v30 = Value.tuple #[Value.agg
 #[iw n31, iw n32, iw n33, iw n34, .string s35, iw n36, iw n37, iw n38, iw n39, iw n40, sw a41 k42 k43, sw a44 k45 k46, sw a47 k48 k49], .bool b50] /\ ∀ (k51 : Nat), H26 k51 = none -> Vx.Sub H28 (H26.upd k51 (Obj.cells
 #[iw 0, iw 0, iw 0, iw 0, .string ({ data := #[] } : ByteArray), iw 0, iw 0, iw 0, iw 0, iw 0, sw none 0 0, sw none 0 0, sw none 0 0] 52)) /\ ∃ H52, Writes (H26.upd k51 (Obj.cells
 #[iw 0, iw 0, iw 0, iw 0, .string ({ data := #[] } : ByteArray), iw 0, iw 0, iw 0, iw 0, iw 0, sw none 0 0, sw none 0 0, sw none 0 0] 52)) H52 (at0 k51) [iw n31, iw n32, iw n33, iw n34, .string s35,
 iw n36, iw n37, iw n38, iw n39, iw n40, sw a41 k42 k43, sw a44 k45 k46, sw a47 k48 k49] /\ (b50 = true -> Q (.bool false) H52) /\ (b50 = false -> ∃ H53, Vx.Sub H53 H52 /\ Ob (a1 ≠ none) /\ Ob (a1 ≠ none) /\ ∃ a54,
 Reads H53 (fldA a1 2) [Value.map a54] /\ EvU prog (Instr.mapUpdate 117 (Value.map a54) (iw n3) (Value.agg #[iw n2, iw n3, iw n4, iw n5, .string s6, iw n7, iw n8, iw n9, iw n10,
 iw n11, sw a12 k13 k14, sw a15 k16 k17, sw a18 k19 k20])) H52 fun H55 => Q (.bool true) H55))) /\ (a1.isNone = !false -> Q (.bool false) H)) : Triple prog 44 ([.pointer a1, Value.agg
 #[iw n2, iw n3, iw n4, iw n5, .string s6, iw n7, iw n8, iw n9, iw n10, iw n11, sw a12 k13 k14, sw a15 k16 k17, sw a18 k19 k20]]).toArray H Q := Triple.of_vc takeR.cx (by kernel_rfl) h
theorem allR.vc (a1 : Option Addr) (H : PHeap) (Q : Value -> PHeap -> Prop)
 (h : ∀ (k2 : Nat), H k2 = none -> ∃ a3, Reads (H.upd k2 (Obj.cells #[.pointer a1] 66)) (at0 k2) [.pointer a3] /\ (a3.isNone = true -> Q (.bool false) (H.upd k2 (Obj.cells #[.pointer a1] 66))) /\ (a3.isNone = false ->
 ∃ a4, Reads (H.upd k2 (Obj.cells #[.pointer a1] 66)) (at0 k2) [.pointer a4] /\ Ob (a4 ≠ none) /\ Ob (a4 ≠ none) /\ ∃ a5 k6 k7, Reads (H.upd k2 (Obj.cells #[.pointer a1] 66)) (fldA a4 1) [sw a5 k6 k7] /\
 Triple prog 81 #[sw a5 k6 k7, Value.func (Fn.func 82) #[] #[.pointer (at0 k2)]] (H.upd k2 (Obj.cells #[.pointer a1] 66)) fun v8 H9 => ∃ b10, v8 = .bool b10 /\ Q (.bool !b10) H9)) :
 Triple prog 45 ([.pointer a1]).toArray H Q := Triple.of_vc allR.cx (by kernel_rfl) h
theorem allR1.vc (n1 : Int) (a2 : Option Addr) (H : PHeap) (Q : Value -> PHeap -> Prop)
 (h : ∃ a3, Reads H a2 [.pointer a3] /\ Ob (a3 ≠ none) /\ Ob (a3 ≠ none) /\ ∃ a4, Reads H (fldA a3 2) [Value.map a4] /\ LookV prog (Instr.lookup 117 (Value.map a4) (iw n1) true) H fun v5 =>
 ∃ n6 n7 n8 n9 s10 n11 n12 n13 n14 n15 a16 k17 k18 a19 k20 k21 a22 k23 k24 b25, v5 = Value.tuple #[Value.agg #[iw n6, iw n7, iw n8, iw n9, .string s10, iw n11,
 iw n12, iw n13, iw n14, iw n15, sw a16 k17 k18, sw a19 k20 k21, sw a22 k23 k24], .bool b25] /\ Q (.bool !b25) H) : Triple prog 82 ([iw n1, .pointer a2]).toArray H Q := Triple.of_vc allR1.cx (by kernel_rfl) h
theorem gotR.vc (a1 : Option Addr) (H : PHeap) (Q : Value -> PHeap -> Prop)
 (h : (a1.isNone = true -> Q (sw none 0 0) H) /\ (a1.isNone = false -> Ob (a1 ≠ none) /\ Ob (a1 ≠ none) /\ ∃ a2, Reads H (fldA a1 2) [Value.map a2] /\ EvV prog (Instr.range 117 (Value.map a2)) H fun v3 H4 => ∃ a5,
 v3 = .pointer a5 /\ ∃ (R6 : Rl) (M7 : Mu), R6 [sw none 0 0] H4 /\ ∀ (a8 : Option Addr) (k9 k10 : Nat) (H11 : PHeap), R6 [sw a8 k9 k10] H11 -> EvV prog (Instr.next (.pointer a5) false 0) H11 fun v12 H13 =>
 v12 = .tuple #[.bool false] /\ (false = true -> EvV prog (Instr.entry (.pointer a5)) H13 fun v14 H15 => ∃ n16 n17 n18 n19 n20 s21 n22 n23 n24 n25 n26 a27 k28 k29 a30 k31 k32 a33 k34 k35, v14 = Value.tuple #[iw n16,
 Value.agg #[iw n17, iw n18, iw n19, iw n20, .string s21, iw n22, iw n23, iw n24, iw n25, iw n26, sw a27 k28 k29, sw a30 k31 k32, sw a33 k34 k35]] /\ ∀ (k36 : Nat), H15 k36 = none ->
 EvV prog (Builtin.append_ #[42, 42] 42 #[sw a8 k9 k10, sw (at0 k36) 1 1]) (H15.upd k36 (Obj.cells #[iw n16] 3)) fun v37 H38 => ∃ a39 k40 k41,
 v37 = sw a39 k40 k41 /\ R6 [sw a39 k40 k41] H38 /\ Less (M7 [sw a39 k40 k41] H38) (M7 [sw a8 k9 k10] H11)) /\ (false = false -> Triple prog 121 #[sw a8 k9 k10] H13 fun v42 H43 => v42 = .tuple #[] /\
 ∃ (R44 : Rl) (M45 : Mu), R44 [sw none 0 0, iw 0] H43 /\ ∀ (a46 : Option Addr) (k47 k48 : Nat) (n49 : Int) (H50 : PHeap), R44 [sw a46 k47 k48, iw n49] H50 -> (decide (n49 < (k9 : Int)) = true ->
 Ob (a8 ≠ none /\ 0 ≤ n49 /\ n49 < (k9 : Int)) /\ ∃ n51, Reads H50 (elemA a8 n49 1) [iw n51] /\ Ob (a1 ≠ none) /\ Ob (a1 ≠ none) /\ ∃ a52, Reads H50 (fldA a1 2) [Value.map a52] /\
 LookV prog (Instr.lookup 117 (Value.map a52) (iw n51) false) H50 fun v53 => ∃ n54 n55 n56 n57 s58 n59 n60 n61 n62 n63 a64 k65 k66 a67 k68 k69 a70 k71 k72, v53 = Value.agg #[iw n54, iw n55, iw n56, iw n57,
 .string s58, iw n59, iw n60, iw n61, iw n62, iw n63, sw a64 k65 k66, sw a67 k68 k69, sw a70 k71 k72] /\ ∀ (k73 : Nat), H50 k73 = none -> EvV prog (Builtin.append_ #[28, 28] 28 #[sw a46 k47 k48, sw (at0 k73) 1 1])
 (H50.upd k73 (Obj.cells #[iw n54, iw n55, iw n56, iw n57, .string s58, iw n59, iw n60, iw n61, iw n62, iw n63, sw a64 k65 k66, sw a67 k68 k69, sw a70 k71 k72] 52)) fun v74 H75 => ∃ a76 k77 k78, v74 = sw a76 k77 k78 /\
 R44 [sw a76 k77 k78, iw (IntKind.i64.wrap (n49 + 1))] H75 /\ Less (M45 [sw a76 k77 k78, iw (IntKind.i64.wrap (n49 + 1))] H75) (M45 [sw a46 k47 k48, iw n49] H50)) /\
 (decide (n49 < (k9 : Int)) = false -> Q (sw a46 k47 k48) H50)) ∨ ∃ v79 v80, v12 = .tuple #[.bool true, v79, v80] /\ (true = true -> EvV prog (Instr.entry (.pointer a5)) H13 fun v81 H82 =>
 ∃ n83 n84 n85 n86 n87 s88 n89 n90 n91 n92 n93 a94 k95 k96 a97 k98 k99 a100 k101 k102, v81 = Value.tuple #[iw n83, Value.agg #[iw n84, iw n85, iw n86, iw n87, .string s88, iw n89, iw n90, iw n91, iw n92, iw n93,
 sw a94 k95 k96, sw a97 k98 k99, sw a100 k101 k102]] /\ ∀ (k103 : Nat), H82 k103 = none -> EvV prog (Builtin.append_ #[42, 42] 42 #[sw a8 k9 k10, sw (at0 k103) 1 1])
 (H82.upd k103 (Obj.cells #[iw n83] 3)) fun v104 H105 => ∃ a106 k107 k108, v104 = sw a106 k107 k108 /\ R6 [sw a106 k107 k108] H105 /\ Less (M7 [sw a106 k107 k108] H105) (M7 [sw a8 k9 k10] H11)) /\ (true = false ->
 Triple prog 121 #[sw a8 k9 k10] H13 fun v109 H110 => v109 = .tuple #[] /\ ∃ (R111 : Rl) (M112 : Mu), R111 [sw none 0 0, iw 0] H110 /\ ∀ (a113 : Option Addr) (k114 k115 : Nat) (n116 : Int) (H117 : PHeap),
 R111 [sw a113 k114 k115, iw n116] H117 -> (decide (n116 < (k9 : Int)) = true -> Ob (a8 ≠ none /\ 0 ≤ n116 /\ n116 < (k9 : Int)) /\ ∃ n118, Reads H117 (elemA a8 n116 1) [iw n118] /\ Ob (a1 ≠ none) /\ Ob (a1 ≠ none) /\
 ∃ a119, Reads H117 (fldA a1 2) [Value.map a119] /\ LookV prog (Instr.lookup 117 (Value.map a119) (iw n118) false) H117 fun v120 =>
 ∃ n121 n122 n123 n124 s125 n126 n127 n128 n129 n130 a131 k132 k133 a134 k135 k136 a137 k138 k139, v120 = Value.agg #[iw n121, iw n122, iw n123, iw n124, .string s125, iw n126, iw n127, iw n128,
 iw n129, iw n130, sw a131 k132 k133, sw a134 k135 k136, sw a137 k138 k139] /\ ∀ (k140 : Nat), H117 k140 = none -> EvV prog (Builtin.append_ #[28, 28] 28 #[sw a113 k114 k115, sw (at0 k140) 1 1]) (H117.upd k140
 (Obj.cells #[iw n121, iw n122, iw n123, iw n124, .string s125, iw n126, iw n127, iw n128, iw n129, iw n130, sw a131 k132 k133, sw a134 k135 k136, sw a137 k138 k139] 52)) fun v141 H142 => ∃ a143 k144 k145,
 v141 = sw a143 k144 k145 /\ R111 [sw a143 k144 k145, iw (IntKind.i64.wrap (n116 + 1))] H142 /\ Less (M112 [sw a143 k144 k145, iw (IntKind.i64.wrap (n116 + 1))] H142) (M112 [sw a113 k114 k115, iw n116] H117)) /\
 (decide (n116 < (k9 : Int)) = false -> Q (sw a113 k114 k115) H117)))) : Triple prog 86 ([.pointer a1]).toArray H Q := Triple.of_vc gotR.cx (by kernel_rfl) h
theorem tickR.vc (a1 : Option Addr) (H : PHeap) (Q : Value -> PHeap -> Prop)
 (h : ∀ (k2 : Nat), H k2 = none -> ∃ a3, Reads (H.upd k2 (Obj.cells #[.pointer a1] 66)) (at0 k2) [.pointer a3] /\ (a3.isNone = false -> ∃ a4, Reads (H.upd k2 (Obj.cells #[.pointer a1] 66)) (at0 k2) [.pointer a4] /\
 Ob (a4 ≠ none) /\ Ob (a4 ≠ none) /\ ∃ n5, Reads (H.upd k2 (Obj.cells #[.pointer a1] 66)) (fldA a4 3) [iw n5] /\ ((n5 == 0) = true -> Q (.tuple #[sw none 0 0, .bool true]) (H.upd k2 (Obj.cells #[.pointer a1] 66))) /\
 ((n5 == 0) = false -> ∃ a6, Reads (H.upd k2 (Obj.cells #[.pointer a1] 66)) (at0 k2) [.pointer a6] /\ Ob (a6 ≠ none) /\ Ob (a6 ≠ none) /\ ∃ n7, Reads (H.upd k2 (Obj.cells #[.pointer a1] 66)) (fldA a6 3) [iw n7] /\
 Ob (a6 ≠ none) /\ Ob (a6 ≠ none) /\ ∃ H8, Writes (H.upd k2 (Obj.cells #[.pointer a1] 66)) H8 (fldA a6 3) [iw (IntKind.i64.wrap (n7 - 1))] /\ ∃ a9, Reads H8 (at0 k2) [.pointer a9] /\
 Triple prog 71 #[.pointer a9] H8 fun v10 H11 => ∃ a12 k13 k14, v10 = sw a12 k13 k14 /\ Triple prog 70 #[sw a12 k13 k14, Value.func (Fn.func 72) #[] #[.pointer (at0 k2)]] H11
 fun v15 H16 => ∃ a17 k18 k19, v15 = sw a17 k18 k19 /\ Q (.tuple #[sw a17 k18 k19, .bool false]) H16)) /\ (a3.isNone = !false -> Q (.tuple #[sw none 0 0, .bool true]) (H.upd k2 (Obj.cells #[.pointer a1] 66)))) :
 Triple prog 34 ([.pointer a1]).toArray H Q := Triple.of_vc tickR.cx (by kernel_rfl) h
theorem tickR1.vc (n1 n2 n3 n4 : Int) (s5 : ByteArray) (n6 n7 n8 n9 n10 : Int) (a11 : Option Addr) (k12 k13 : Nat) (a14 : Option Addr) (k15 k16 : Nat) (a17 : Option Addr) (k18 k19 : Nat) (a20 : Option Addr) (H : PHeap) (Q : Value -> PHeap -> Prop)
 (h : ∃ H21, Vx.Sub H21 H /\ ∃ a22, Reads H21 a20 [.pointer a22] /\ Ob (a22 ≠ none) /\ Ob (a22 ≠ none) /\ ∃ a23, Reads H21 (fldA a22 2) [Value.map a23] /\
 LookV prog (Instr.lookup 117 (Value.map a23) (iw n3) true) H21 fun v24 => ∃ n25 n26 n27 n28 s29 n30 n31 n32 n33 n34 a35 k36 k37 a38 k39 k40 a41 k42 k43 b44, v24 = Value.tuple #[Value.agg
 #[iw n25, iw n26, iw n27, iw n28, .string s29, iw n30, iw n31, iw n32, iw n33, iw n34, sw a35 k36 k37, sw a38 k39 k40, sw a41 k42 k43], .bool b44] /\ ∀ (k45 : Nat), H k45 = none -> Vx.Sub H21 (H.upd k45 (Obj.cells
 #[iw 0, iw 0, iw 0, iw 0, .string ({ data := #[] } : ByteArray), iw 0, iw 0, iw 0, iw 0, iw 0, sw none 0 0, sw none 0 0, sw none 0 0] 52)) /\ ∃ H46, Writes (H.upd k45 (Obj.cells
 #[iw 0, iw 0, iw 0, iw 0, .string ({ data := #[] } : ByteArray), iw 0, iw 0, iw 0, iw 0, iw 0, sw none 0 0, sw none 0 0, sw none 0 0] 52)) H46 (at0 k45) [iw n25, iw n26, iw n27, iw n28, .string s29, iw n30,
 iw n31, iw n32, iw n33, iw n34, sw a35 k36 k37, sw a38 k39 k40, sw a41 k42 k43] /\ Q (.bool b44) H46) : Triple prog 72 ([Value.agg #[iw n1, iw n2, iw n3, iw n4, .string s5, iw n6, iw n7,
 iw n8, iw n9, iw n10, sw a11 k12 k13, sw a14 k15 k16, sw a17 k18 k19], .pointer a20]).toArray H Q := Triple.of_vc tickR1.cx (by kernel_rfl) h
theorem cloneM.vc (a1 : Option Addr) (k2 k3 : Nat) (H : PHeap) (Q : Value -> PHeap -> Prop)
 (h : (a1.isNone = true -> Q (sw none 0 0) H) /\ (a1.isNone = false -> ∀ (k4 : Nat), H k4 = none -> EvV prog (Builtin.append_ #[28, 28] 28 #[sw (at0 k4) 0 0, sw a1 k2 k3]) (H.upd k4 (Obj.cells #[] 52)) fun v5 H6 =>
 ∃ a7 k8 k9, v5 = sw a7 k8 k9 /\ Q (sw a7 k8 k9) H6)) : Triple prog 106 ([sw a1 k2 k3]).toArray H Q := Triple.of_vc cloneM.cx (by kernel_rfl) h
theorem cloneI.vc (a1 : Option Addr) (k2 k3 : Nat) (H : PHeap) (Q : Value -> PHeap -> Prop)
 (h : (a1.isNone = true -> Q (sw none 0 0) H) /\ (a1.isNone = false -> ∀ (k4 : Nat), H k4 = none -> EvV prog (Builtin.append_ #[42, 42] 42 #[sw (at0 k4) 0 0, sw a1 k2 k3]) (H.upd k4 (Obj.cells #[] 3)) fun v5 H6 =>
 ∃ a7 k8 k9, v5 = sw a7 k8 k9 /\ Q (sw a7 k8 k9) H6)) : Triple prog 133 ([sw a1 k2 k3]).toArray H Q := Triple.of_vc cloneI.cx (by kernel_rfl) h
theorem delFunc.vc (a1 : Option Addr) (k2 k3 : Nat) (v4 : Value) (H : PHeap) (Q : Value -> PHeap -> Prop)
 (h : Triple prog 105 #[sw a1 k2 k3, v4] H fun v5 H6 => ∃ n7, v5 = iw n7 /\ ((n7 == -1) = true -> Q (sw a1 k2 k3) H6) /\ ((n7 == -1) = false -> ∃ (R8 : Rl) (M9 : Mu), R8 [iw n7, iw (IntKind.i64.wrap (n7 + 1))] H6 /\
 ∀ (n10 n11 : Int) (H12 : PHeap), R8 [iw n10, iw n11] H12 -> (decide (n11 < (k2 : Int)) = true -> Ob (a1 ≠ none /\ 0 ≤ n11 /\ n11 < (k2 : Int)) /\
 ∃ n13 n14 n15 n16 s17 n18 n19 n20 n21 n22 a23 k24 k25 a26 k27 k28 a29 k30 k31, Reads H12 (elemA a1 n11 13) [iw n13, iw n14, iw n15, iw n16, .string s17, iw n18,
 iw n19, iw n20, iw n21, iw n22, sw a23 k24 k25, sw a26 k27 k28, sw a29 k30 k31] /\ CallY prog v4 #[Value.agg #[iw n13, iw n14, iw n15, iw n16, .string s17, iw n18,
 iw n19, iw n20, iw n21, iw n22, sw a23 k24 k25, sw a26 k27 k28, sw a29 k30 k31]] H12 fun v32 H33 => ∃ b34, v32 = .bool b34 /\ ((!b34) = true -> Ob (a1 ≠ none /\ 0 ≤ n10 /\ n10 < (k2 : Int)) /\ ∃ H35,
 Writes H33 H35 (elemA a1 n10 13) [iw n13, iw n14, iw n15, iw n16, .string s17, iw n18, iw n19, iw n20, iw n21, iw n22, sw a23 k24 k25, sw a26 k27 k28, sw a29 k30 k31] /\
 R8 [iw (IntKind.i64.wrap (n10 + 1)), iw (IntKind.i64.wrap (n11 + 1))] H35 /\ Less (M9 [iw (IntKind.i64.wrap (n10 + 1)), iw (IntKind.i64.wrap (n11 + 1))] H35) (M9 [iw n10, iw n11] H12)) /\ ((!b34) = false ->
 R8 [iw n10, iw (IntKind.i64.wrap (n11 + 1))] H33 /\ Less (M9 [iw n10, iw (IntKind.i64.wrap (n11 + 1))] H33) (M9 [iw n10, iw n11] H12))) /\ (decide (n11 < (k2 : Int)) = false ->
 Ob (0 ≤ n10 /\ n10 ≤ (k2 : Int) /\ (k2 : Int) ≤ (k3 : Int)) /\ EvV prog (Builtin.clear_ #[28] 0 #[sw (slA a1 n10 k3 13) ((k2 : Int).toNat - n10.toNat) (k3 - n10.toNat)]) H12 fun v36 H37 =>
 Ob ((0 : Int) ≤ 0 /\ 0 ≤ n10 /\ n10 ≤ (k3 : Int)) /\ Q (sw (slA a1 0 k3 13) (n10.toNat - Int.toNat 0) (k3 - Int.toNat 0)) H37))) : Triple prog 70 ([sw a1 k2 k3, v4]).toArray H Q :=
 Triple.of_vc delFunc.cx (by kernel_rfl) h
theorem idxFuncM.vc (a1 : Option Addr) (k2 k3 : Nat) (v4 : Value) (H : PHeap) (Q : Value -> PHeap -> Prop)
 (h : ∃ (R5 : Rl) (M6 : Mu), R5 [iw 0] H /\ ∀ (n7 : Int) (H8 : PHeap), R5 [iw n7] H8 -> (decide (n7 < (k2 : Int)) = true -> Ob (a1 ≠ none /\ 0 ≤ n7 /\ n7 < (k2 : Int)) /\
 ∃ n9 n10 n11 n12 s13 n14 n15 n16 n17 n18 a19 k20 k21 a22 k23 k24 a25 k26 k27, Reads H8 (elemA a1 n7 13) [iw n9, iw n10, iw n11, iw n12, .string s13, iw n14, iw n15,
 iw n16, iw n17, iw n18, sw a19 k20 k21, sw a22 k23 k24, sw a25 k26 k27] /\ CallY prog v4 #[Value.agg #[iw n9, iw n10, iw n11, iw n12, .string s13, iw n14, iw n15, iw n16, iw n17, iw n18, sw a19 k20 k21, sw a22 k23 k24,
 sw a25 k26 k27]] H8 fun v28 H29 => ∃ b30, v28 = .bool b30 /\ (b30 = true -> Q (iw n7) H29) /\ (b30 = false ->
 R5 [iw (IntKind.i64.wrap (n7 + 1))] H29 /\ Less (M6 [iw (IntKind.i64.wrap (n7 + 1))] H29) (M6 [iw n7] H8))) /\ (decide (n7 < (k2 : Int)) = false -> Q (iw (-1)) H8)) : Triple prog 105 ([sw a1 k2 k3, v4]).toArray H Q :=
 Triple.of_vc idxFuncM.cx (by kernel_rfl) h
theorem contains.vc (a1 : Option Addr) (k2 k3 : Nat) (n4 : Int) (H : PHeap) (Q : Value -> PHeap -> Prop)
 (h : Triple prog 99 #[sw a1 k2 k3, iw n4] H fun v5 H6 => ∃ n7, v5 = iw n7 /\ Q (.bool (decide (n7 ≥ 0))) H6) : Triple prog 59 ([sw a1 k2 k3, iw n4]).toArray H Q := Triple.of_vc contains.cx (by kernel_rfl) h
theorem index.vc (a1 : Option Addr) (k2 k3 : Nat) (n4 : Int) (H : PHeap) (Q : Value -> PHeap -> Prop)
 (h : ∃ (R5 : Rl) (M6 : Mu), R5 [iw 0] H /\ ∀ (n7 : Int) (H8 : PHeap), R5 [iw n7] H8 -> (decide (n7 < (k2 : Int)) = true -> Ob (a1 ≠ none /\ 0 ≤ n7 /\ n7 < (k2 : Int)) /\ ∃ n9, Reads H8 (elemA a1 n7 1) [iw n9] /\
 ((n4 == n9) = true -> Q (iw n7) H8) /\ ((n4 == n9) = false -> R5 [iw (IntKind.i64.wrap (n7 + 1))] H8 /\ Less (M6 [iw (IntKind.i64.wrap (n7 + 1))] H8) (M6 [iw n7] H8))) /\
 (decide (n7 < (k2 : Int)) = false -> Q (iw (-1)) H8)) : Triple prog 99 ([sw a1 k2 k3, iw n4]).toArray H Q := Triple.of_vc index.cx (by kernel_rfl) h
theorem contFunc.vc (a1 : Option Addr) (k2 k3 : Nat) (v4 : Value) (H : PHeap) (Q : Value -> PHeap -> Prop)
 (h : Triple prog 118 #[sw a1 k2 k3, v4] H fun v5 H6 => ∃ n7, v5 = iw n7 /\ Q (.bool (decide (n7 ≥ 0))) H6) : Triple prog 81 ([sw a1 k2 k3, v4]).toArray H Q := Triple.of_vc contFunc.cx (by kernel_rfl) h
theorem idxFunc.vc (a1 : Option Addr) (k2 k3 : Nat) (v4 : Value) (H : PHeap) (Q : Value -> PHeap -> Prop)
 (h : ∃ (R5 : Rl) (M6 : Mu), R5 [iw 0] H /\ ∀ (n7 : Int) (H8 : PHeap), R5 [iw n7] H8 -> (decide (n7 < (k2 : Int)) = true -> Ob (a1 ≠ none /\ 0 ≤ n7 /\ n7 < (k2 : Int)) /\ ∃ n9, Reads H8 (elemA a1 n7 1) [iw n9] /\
 CallY prog v4 #[iw n9] H8 fun v10 H11 => ∃ b12, v10 = .bool b12 /\ (b12 = true -> Q (iw n7) H11) /\ (b12 = false ->
 R5 [iw (IntKind.i64.wrap (n7 + 1))] H11 /\ Less (M6 [iw (IntKind.i64.wrap (n7 + 1))] H11) (M6 [iw n7] H8))) /\ (decide (n7 < (k2 : Int)) = false -> Q (iw (-1)) H8)) : Triple prog 118 ([sw a1 k2 k3, v4]).toArray H Q :=
 Triple.of_vc idxFunc.cx (by kernel_rfl) h
theorem refNew.vc (n1 : Int) (a2 : Option Addr) (k3 k4 : Nat) (a5 : Option Addr) (k6 k7 : Nat) (H : PHeap) (Q : Value -> PHeap -> Prop)
 (h : Q (.agg #[sw a2 k3 k4, sw a5 k6 k7, sw none 0 0, iw (bif decide (n1 < 0) then 0 else n1)]) H) : Triple prog 63 ([iw n1, sw a2 k3 k4, sw a5 k6 k7]).toArray H Q := Triple.of_vc refNew.cx (by kernel_rfl) h
theorem refHas.vc (a1 : Option Addr) (k2 k3 : Nat) (a4 : Option Addr) (k5 k6 : Nat) (a7 : Option Addr) (k8 k9 : Nat) (n10 n11 : Int) (H : PHeap) (Q : Value -> PHeap -> Prop)
 (h : ∃ (R12 : Rl) (M13 : Mu), R12 [iw 0] H /\ ∀ (n14 : Int) (H15 : PHeap), R12 [iw n14] H15 -> (decide (n14 < (k8 : Int)) = true -> Ob (a7 ≠ none /\ 0 ≤ n14 /\ n14 < (k8 : Int)) /\ Ob (elemA a7 n14 13 ≠ none) /\ ∃ n16,
 Reads H15 (fldA (elemA a7 n14 13) 1) [iw n16] /\ ((n16 == n11) = true -> Q (.bool true) H15) /\ ((n16 == n11) = false ->
 R12 [iw (IntKind.i64.wrap (n14 + 1))] H15 /\ Less (M13 [iw (IntKind.i64.wrap (n14 + 1))] H15) (M13 [iw n14] H15))) /\ (decide (n14 < (k8 : Int)) = false -> Q (.bool false) H15)) :
 Triple prog 79 ([.agg #[sw a1 k2 k3, sw a4 k5 k6, sw a7 k8 k9, iw n10], iw n11]).toArray H Q := Triple.of_vc refHas.cx (by kernel_rfl) h
theorem refTake.vc (a1 : Option Addr) (k2 k3 : Nat) (a4 : Option Addr) (k5 k6 : Nat) (a7 : Option Addr) (k8 k9 : Nat) (n10 n11 n12 n13 n14 : Int) (s15 : ByteArray) (n16 n17 n18 n19 n20 : Int) (a21 : Option Addr) (k22 k23 : Nat) (a24 : Option Addr) (k25 k26 : Nat) (a27 : Option Addr) (k28 k29 : Nat) (H : PHeap) (Q : Value -> PHeap -> Prop)
 (h : ∃ (R30 : Rl) (M31 : Mu), R30 [.bool false, iw 0] H /\ ∀ (b32 : Bool) (n33 : Int) (H34 : PHeap), R30 [.bool b32, iw n33] H34 -> (decide (n33 < (k5 : Int)) = true -> ∃ H35, Vx.Sub H35 H34 /\ (b32 = false ->
 Ob (a4 ≠ none /\ 0 ≤ n33 /\ n33 < (k5 : Int)) /\ ∃ n36, Reads H35 (elemA a4 n33 1) [iw n36] /\ R30 [.bool (n36 == n12), iw (IntKind.i64.wrap (n33 + 1))] H34 /\
 Less (M31 [.bool (n36 == n12), iw (IntKind.i64.wrap (n33 + 1))] H34) (M31 [.bool b32, iw n33] H34)) /\ (b32 = !false -> R30 [.bool true, iw (IntKind.i64.wrap (n33 + 1))] H34 /\
 Less (M31 [.bool true, iw (IntKind.i64.wrap (n33 + 1))] H34) (M31 [.bool b32, iw n33] H34))) /\ (decide (n33 < (k5 : Int)) = false -> ((!b32) = false ->
 Triple prog 79 #[.agg #[sw a1 k2 k3, sw a4 k5 k6, sw a7 k8 k9, iw n10], iw n12] H34 fun v37 H38 => ∃ b39, v37 = .bool b39 /\
 (b39 = true -> Q (.tuple #[.agg #[sw a1 k2 k3, sw a4 k5 k6, sw a7 k8 k9, iw n10], .bool false]) H38) /\ (b39 = false -> ∃ (R40 : Rl) (M41 : Mu), R40 [iw 0] H38 /\ ∀ (n42 : Int) (H43 : PHeap), R40 [iw n42] H43 -> ∃ H44,
 Vx.Sub H44 H43 /\ (decide (n42 < (k8 : Int)) = true -> Ob (a7 ≠ none /\ 0 ≤ n42 /\ n42 < (k8 : Int)) /\ Ob (elemA a7 n42 13 ≠ none) /\ ∃ n45, Reads H44 (fldA (elemA a7 n42 13) 1) [iw n45] /\
 (decide (n45 < n12) = true -> R40 [iw (IntKind.i64.wrap (n42 + 1))] H43 /\ Less (M41 [iw (IntKind.i64.wrap (n42 + 1))] H43) (M41 [iw n42] H43)) /\ (decide (n45 < n12) = false -> ∀ (k46 : Nat), H43 k46 = none ->
 Ob ((0 : Int) ≤ 0 /\ 0 ≤ n42 /\ n42 ≤ (k9 : Int)) /\ EvV prog (Builtin.append_ #[28, 28] 28 #[sw (at0 k46) 0 0, sw (slA a7 0 k9 13) (n42.toNat - Int.toNat 0) (k9 - Int.toNat 0)])
 (H43.upd k46 (Obj.cells #[] 52)) fun v47 H48 => ∃ a49 k50 k51, v47 = sw a49 k50 k51 /\ ∀ (k52 : Nat), H48 k52 = none -> EvV prog (Builtin.append_ #[28, 28] 28 #[sw a49 k50 k51, sw (at0 k52) 1 1]) (H48.upd k52
 (Obj.cells #[iw n11, iw n12, iw n13, iw n14, .string s15, iw n16, iw n17, iw n18, iw n19, iw n20, sw a21 k22 k23, sw a24 k25 k26, sw a27 k28 k29] 52)) fun v53 H54 => ∃ a55 k56 k57, v53 = sw a55 k56 k57 /\
 Ob (0 ≤ n42 /\ n42 ≤ (k8 : Int) /\ (k8 : Int) ≤ (k9 : Int)) /\ EvV prog (Builtin.append_ #[28, 28] 28 #[sw a55 k56 k57, sw (slA a7 n42 k9 13) ((k8 : Int).toNat - n42.toNat) (k9 - n42.toNat)]) H54 fun v58 H59 =>
 ∃ a60 k61 k62, v58 = sw a60 k61 k62 /\ Q (Value.tuple #[.agg #[sw a1 k2 k3, sw a4 k5 k6, sw a60 k61 k62, iw n10], .bool true]) H59)) /\ (decide (n42 < (k8 : Int)) = !true -> ∀ (k63 : Nat), H43 k63 = none ->
 Ob ((0 : Int) ≤ 0 /\ 0 ≤ n42 /\ n42 ≤ (k9 : Int)) /\ EvV prog (Builtin.append_ #[28, 28] 28 #[sw (at0 k63) 0 0, sw (slA a7 0 k9 13) (n42.toNat - Int.toNat 0) (k9 - Int.toNat 0)])
 (H43.upd k63 (Obj.cells #[] 52)) fun v64 H65 => ∃ a66 k67 k68, v64 = sw a66 k67 k68 /\ ∀ (k69 : Nat), H65 k69 = none -> EvV prog (Builtin.append_ #[28, 28] 28 #[sw a66 k67 k68, sw (at0 k69) 1 1]) (H65.upd k69
 (Obj.cells #[iw n11, iw n12, iw n13, iw n14, .string s15, iw n16, iw n17, iw n18, iw n19, iw n20, sw a21 k22 k23, sw a24 k25 k26, sw a27 k28 k29] 52)) fun v70 H71 => ∃ a72 k73 k74, v70 = sw a72 k73 k74 /\
 Ob (0 ≤ n42 /\ n42 ≤ (k8 : Int) /\ (k8 : Int) ≤ (k9 : Int)) /\ EvV prog (Builtin.append_ #[28, 28] 28 #[sw a72 k73 k74, sw (slA a7 n42 k9 13) ((k8 : Int).toNat - n42.toNat) (k9 - n42.toNat)]) H71 fun v75 H76 =>
 ∃ a77 k78 k79, v75 = sw a77 k78 k79 /\ Q (Value.tuple #[.agg #[sw a1 k2 k3, sw a4 k5 k6, sw a77 k78 k79, iw n10], .bool true]) H76))) /\
 ((!b32) = !false -> Q (.tuple #[.agg #[sw a1 k2 k3, sw a4 k5 k6, sw a7 k8 k9, iw n10], .bool false]) H34))) : Triple prog 49 ([.agg #[sw a1 k2 k3, sw a4 k5 k6, sw a7 k8 k9, iw n10], Value.agg
 #[iw n11, iw n12, iw n13, iw n14, .string s15, iw n16, iw n17, iw n18, iw n19, iw n20, sw a21 k22 k23, sw a24 k25 k26, sw a27 k28 k29]]).toArray H Q := Triple.of_vc refTake.cx (by kernel_rfl) h
theorem refAll.vc (a1 : Option Addr) (k2 k3 : Nat) (a4 : Option Addr) (k5 k6 : Nat) (a7 : Option Addr) (k8 k9 : Nat) (n10 : Int) (H : PHeap) (Q : Value -> PHeap -> Prop)
 (h : ∃ (R11 : Rl) (M12 : Mu), R11 [iw 0] H /\ ∀ (n13 : Int) (H14 : PHeap), R11 [iw n13] H14 -> (decide (n13 < (k5 : Int)) = true -> ∃ H15, Vx.Sub H15 H14 /\ Ob (a4 ≠ none /\ 0 ≤ n13 /\ n13 < (k5 : Int)) /\ ∃ n16,
 Reads H15 (elemA a4 n13 1) [iw n16] /\ Triple prog 79 #[.agg #[sw a1 k2 k3, sw a4 k5 k6, sw a7 k8 k9, iw n10], iw n16] H14 fun v17 H18 => ∃ b19, v17 = .bool b19 /\ ((!b19) = true -> Q (.bool false) H18) /\
 ((!b19) = false -> R11 [iw (IntKind.i64.wrap (n13 + 1))] H18 /\ Less (M12 [iw (IntKind.i64.wrap (n13 + 1))] H18) (M12 [iw n13] H14))) /\ (decide (n13 < (k5 : Int)) = false -> Q (.bool true) H14)) :
 Triple prog 50 ([.agg #[sw a1 k2 k3, sw a4 k5 k6, sw a7 k8 k9, iw n10]]).toArray H Q := Triple.of_vc refAll.cx (by kernel_rfl) h
theorem refTick.vc (a1 : Option Addr) (k2 k3 : Nat) (a4 : Option Addr) (k5 k6 : Nat) (a7 : Option Addr) (k8 k9 : Nat) (n10 : Int) (H : PHeap) (Q : Value -> PHeap -> Prop)
 (h : ((n10 == 0) = true -> Q (.tuple #[.agg #[sw a1 k2 k3, sw a4 k5 k6, sw a7 k8 k9, iw n10], sw none 0 0, .bool true]) H) /\ ((n10 == 0) = false -> ∃ (R11 : Rl) (M12 : Mu), R11 [sw none 0 0, iw 0] H /\
 ∀ (a13 : Option Addr) (k14 k15 : Nat) (n16 : Int) (H17 : PHeap), R11 [sw a13 k14 k15, iw n16] H17 -> (decide (n16 < (k2 : Int)) = true -> ∃ H18, Vx.Sub H18 H17 /\ Ob (a1 ≠ none /\ 0 ≤ n16 /\ n16 < (k2 : Int)) /\
 Ob (elemA a1 n16 13 ≠ none) /\ ∃ n19, Reads H18 (fldA (elemA a1 n16 13) 2) [iw n19] /\ Triple prog 79 #[.agg #[sw a1 k2 k3, sw a4 k5 k6, sw a7 k8 k9, iw (IntKind.i64.wrap (n10 - 1))], iw n19] H17 fun v20 H21 => ∃ b22,
 v20 = .bool b22 /\ ((!b22) = true -> Ob (a1 ≠ none /\ 0 ≤ n16 /\ n16 < (k2 : Int)) /\ ∃ n23 n24 n25 n26 s27 n28 n29 n30 n31 n32 a33 k34 k35 a36 k37 k38 a39 k40 k41, Reads H21 (elemA a1 n16 13)
 [iw n23, iw n24, iw n25, iw n26, .string s27, iw n28, iw n29, iw n30, iw n31, iw n32, sw a33 k34 k35, sw a36 k37 k38, sw a39 k40 k41] /\ ∀ (k42 : Nat), H21 k42 = none ->
 EvV prog (Builtin.append_ #[28, 28] 28 #[sw a13 k14 k15, sw (at0 k42) 1 1]) (H21.upd k42 (Obj.cells #[iw n23, iw n24, iw n25, iw n26, .string s27, iw n28, iw n29, iw n30, iw n31, iw n32,
 sw a33 k34 k35, sw a36 k37 k38, sw a39 k40 k41] 52)) fun v43 H44 => ∃ a45 k46 k47, v43 = sw a45 k46 k47 /\ R11 [sw a45 k46 k47, iw (IntKind.i64.wrap (n16 + 1))] H44 /\
 Less (M12 [sw a45 k46 k47, iw (IntKind.i64.wrap (n16 + 1))] H44) (M12 [sw a13 k14 k15, iw n16] H17)) /\ ((!b22) = false -> R11 [sw a13 k14 k15, iw (IntKind.i64.wrap (n16 + 1))] H21 /\
 Less (M12 [sw a13 k14 k15, iw (IntKind.i64.wrap (n16 + 1))] H21) (M12 [sw a13 k14 k15, iw n16] H17))) /\ (decide (n16 < (k2 : Int)) = false -> Q (Value.tuple
 #[.agg #[sw a1 k2 k3, sw a4 k5 k6, sw a7 k8 k9, iw (IntKind.i64.wrap (n10 - 1))], sw a13 k14 k15, .bool false]) H17))) : Triple prog 39 ([.agg #[sw a1 k2 k3, sw a4 k5 k6, sw a7 k8 k9, iw n10]]).toArray H Q :=
 Triple.of_vc refTick.cx (by kernel_rfl) h
theorem sameAll.vc (a1 : Option Addr) (k2 k3 : Nat) (a4 : Option Addr) (k5 k6 : Nat) (H : PHeap) (Q : Value -> PHeap -> Prop)
 (h : (((k2 : Int) != (k5 : Int)) = true -> Q (.bool false) H) /\ (((k2 : Int) != (k5 : Int)) = false -> ∃ (R7 : Rl) (M8 : Mu), R7 [iw 0] H /\ ∀ (n9 : Int) (H10 : PHeap), R7 [iw n9] H10 ->
 (decide (n9 < (k2 : Int)) = true -> ∃ H11, Vx.Sub H11 H10 /\ Ob (a1 ≠ none /\ 0 ≤ n9 /\ n9 < (k2 : Int)) /\ ∃ n12 n13 n14 n15 s16 n17 n18 n19 n20 n21 a22 k23 k24 a25 k26 k27 a28 k29 k30, Reads H11 (elemA a1 n9 13)
 [iw n12, iw n13, iw n14, iw n15, .string s16, iw n17, iw n18, iw n19, iw n20, iw n21, sw a22 k23 k24, sw a25 k26 k27, sw a28 k29 k30] /\ Ob (a4 ≠ none /\ 0 ≤ n9 /\ n9 < (k5 : Int)) /\
 ∃ n31 n32 n33 n34 s35 n36 n37 n38 n39 n40 a41 k42 k43 a44 k45 k46 a47 k48 k49, Reads H11 (elemA a4 n9 13) [iw n31, iw n32, iw n33, iw n34, .string s35, iw n36,
 iw n37, iw n38, iw n39, iw n40, sw a41 k42 k43, sw a44 k45 k46, sw a47 k48 k49] /\ Triple prog 31 #[Value.agg #[iw n12, iw n13, iw n14, iw n15, .string s16, iw n17,
 iw n18, iw n19, iw n20, iw n21, sw a22 k23 k24, sw a25 k26 k27, sw a28 k29 k30], Value.agg #[iw n31, iw n32, iw n33, iw n34, .string s35, iw n36, iw n37, iw n38, iw n39, iw n40, sw a41 k42 k43, sw a44 k45 k46,
 sw a47 k48 k49]] H10 fun v50 H51 => ∃ b52, v50 = .bool b52 /\ ((!b52) = true -> Q (.bool false) H51) /\ ((!b52) = false -> R7 [iw (IntKind.i64.wrap (n9 + 1))] H51 /\
 Less (M8 [iw (IntKind.i64.wrap (n9 + 1))] H51) (M8 [iw n9] H10))) /\ (decide (n9 < (k2 : Int)) = false -> Q (.bool true) H10))) : Triple prog 10 ([sw a1 k2 k3, sw a4 k5 k6]).toArray H Q :=
 Triple.of_vc sameAll.cx (by kernel_rfl) h
theorem sameM.vc (n1 n2 n3 n4 : Int) (s5 : ByteArray) (n6 n7 n8 n9 n10 : Int) (a11 : Option Addr) (k12 k13 : Nat) (a14 : Option Addr) (k15 k16 : Nat) (a17 : Option Addr) (k18 k19 : Nat) (n20 n21 n22 n23 : Int) (s24 : ByteArray) (n25 n26 n27 n28 n29 : Int) (a30 : Option Addr) (k31 k32 : Nat) (a33 : Option Addr) (k34 k35 : Nat) (a36 : Option Addr) (k37 k38 : Nat) (H : PHeap) (Q : Value -> PHeap -> Prop)
 (h : ∀ (k39 : Nat), H k39 = none -> ∀ (k40 : Nat), H.upd k39 (Obj.cells #[iw n1, iw n2, iw n3, iw n4, iw n6, iw n7, iw n8, iw n9, iw n10] 3) k40 = none -> Triple prog 65 #[sw (at0 k39) 9 9, sw (at0 k40) 9 9]
 ((H.upd k39 (Obj.cells #[iw n1, iw n2, iw n3, iw n4, iw n6, iw n7, iw n8, iw n9, iw n10] 3)).upd k40 (Obj.cells #[iw n20, iw n21, iw n22, iw n23, iw n25, iw n26, iw n27, iw n28, iw n29] 3)) fun v41 H42 => ∃ b43,
 v41 = .bool b43 /\ (b43 = true -> (eqS s5 s24 = true -> Triple prog 65 #[sw a11 k12 k13, sw a30 k31 k32] H42 fun v44 H45 => ∃ b46, v44 = .bool b46 /\ (b46 = true ->
 Triple prog 66 #[sw a14 k15 k16, sw a33 k34 k35] H45 fun v47 H48 => ∃ b49, v47 = .bool b49 /\ (b49 = true ->
 Triple prog 67 #[sw a17 k18 k19, sw a36 k37 k38] H48 fun v50 H51 => ∃ b52, v50 = .bool b52 /\ Q (.bool b52) H51) /\ (b49 = !true -> Q (.bool false) H48)) /\ (b46 = !true -> Q (.bool false) H45)) /\
 (eqS s5 s24 = !true -> Q (.bool false) H42)) /\ (b43 = !true -> Q (.bool false) H42)) : Triple prog 31 ([Value.agg #[iw n1, iw n2, iw n3, iw n4, .string s5, iw n6, iw n7,
 iw n8, iw n9, iw n10, sw a11 k12 k13, sw a14 k15 k16, sw a17 k18 k19], Value.agg #[iw n20, iw n21, iw n22, iw n23, .string s24, iw n25, iw n26,
 iw n27, iw n28, iw n29, sw a30 k31 k32, sw a33 k34 k35, sw a36 k37 k38]]).toArray H Q := Triple.of_vc sameM.cx (by kernel_rfl) h
theorem farM.vc (n1 n2 n3 n4 : Int) (s5 : ByteArray) (n6 n7 n8 n9 n10 : Int) (a11 : Option Addr) (k12 k13 : Nat) (a14 : Option Addr) (k15 k16 : Nat) (a17 : Option Addr) (k18 k19 : Nat) (H : PHeap) (Q : Value -> PHeap -> Prop)
 (h : (decide ((s5.size : Int) > 40) = false -> (decide ((k12 : Int) > 300) = false -> (decide ((k15 : Int) > 20) = false ->
 (decide ((k18 : Int) > 300) = false -> Triple prog 84 #[sw a14 k15 k16] H fun v20 H21 => ∃ b22, v20 = .bool b22 /\ Q (.bool b22) H21) /\ (decide ((k18 : Int) > 300) = !false -> Q (.bool true) H)) /\
 (decide ((k15 : Int) > 20) = !false -> Q (.bool true) H)) /\ (decide ((k12 : Int) > 300) = !false -> Q (.bool true) H)) /\ (decide ((s5.size : Int) > 40) = !false -> Q (.bool true) H)) : Triple prog 51 ([Value.agg
 #[iw n1, iw n2, iw n3, iw n4, .string s5, iw n6, iw n7, iw n8, iw n9, iw n10, sw a11 k12 k13, sw a14 k15 k16, sw a17 k18 k19]]).toArray H Q := Triple.of_vc farM.cx (by kernel_rfl) h
theorem sameInts.vc (a1 : Option Addr) (k2 k3 : Nat) (a4 : Option Addr) (k5 k6 : Nat) (H : PHeap) (Q : Value -> PHeap -> Prop)
 (h : (((k2 : Int) != (k5 : Int)) = true -> Q (.bool false) H) /\ (((k2 : Int) != (k5 : Int)) = false -> ∃ (R7 : Rl) (M8 : Mu), R7 [iw 0] H /\ ∀ (n9 : Int) (H10 : PHeap), R7 [iw n9] H10 ->
 (decide (n9 < (k2 : Int)) = true -> ∃ H11, Vx.Sub H11 H10 /\ Ob (a1 ≠ none /\ 0 ≤ n9 /\ n9 < (k2 : Int)) /\ ∃ n12, Reads H11 (elemA a1 n9 1) [iw n12] /\ Ob (a4 ≠ none /\ 0 ≤ n9 /\ n9 < (k5 : Int)) /\ ∃ n13,
 Reads H11 (elemA a4 n9 1) [iw n13] /\ ((n12 != n13) = true -> Q (.bool false) H10) /\ ((n12 != n13) = false -> R7 [iw (IntKind.i64.wrap (n9 + 1))] H10 /\
 Less (M8 [iw (IntKind.i64.wrap (n9 + 1))] H10) (M8 [iw n9] H10))) /\ (decide (n9 < (k2 : Int)) = false -> Q (.bool true) H10))) : Triple prog 65 ([sw a1 k2 k3, sw a4 k5 k6]).toArray H Q :=
 Triple.of_vc sameInts.cx (by kernel_rfl) h
theorem sameB.vc (a1 : Option Addr) (k2 k3 : Nat) (a4 : Option Addr) (k5 k6 : Nat) (H : PHeap) (Q : Value -> PHeap -> Prop)
 (h : (((k2 : Int) != (k5 : Int)) = true -> Q (.bool false) H) /\ (((k2 : Int) != (k5 : Int)) = false -> ∃ (R7 : Rl) (M8 : Mu), R7 [iw 0] H /\ ∀ (n9 : Int) (H10 : PHeap), R7 [iw n9] H10 ->
 (decide (n9 < (k2 : Int)) = true -> ∃ H11, Vx.Sub H11 H10 /\ Ob (a1 ≠ none /\ 0 ≤ n9 /\ n9 < (k2 : Int)) /\ ∃ n12, Reads H11 (elemA a1 n9 1) [Value.int IntKind.u8 n12] /\ Ob (a4 ≠ none /\ 0 ≤ n9 /\ n9 < (k5 : Int)) /\
 ∃ n13, Reads H11 (elemA a4 n9 1) [Value.int IntKind.u8 n13] /\ ((n12 != n13) = true -> Q (.bool false) H10) /\ ((n12 != n13) = false -> R7 [iw (IntKind.i64.wrap (n9 + 1))] H10 /\
 Less (M8 [iw (IntKind.i64.wrap (n9 + 1))] H10) (M8 [iw n9] H10))) /\ (decide (n9 < (k2 : Int)) = false -> Q (.bool true) H10))) : Triple prog 67 ([sw a1 k2 k3, sw a4 k5 k6]).toArray H Q :=
 Triple.of_vc sameB.cx (by kernel_rfl) h
end Go.Vc
namespace Go.Rnd
open Go.Vx Go.Vc Go.Proofs
abbrev Msg := Int × Int × Int × Int × ByteArray × Int × Int × Int × Int × Int × Sl Int × Sl ByteArray × Sl Int
abbrev iE : Int → List Value := intE .i64
abbrev mE : Msg → List Value := pairE iE (pairE iE (pairE iE (pairE iE (pairE strE (pairE iE (pairE iE (pairE iE (pairE iE (pairE iE (pairE Sl.E (pairE Sl.E Sl.E)))))))))))
abbrev z0 : Msg := (0, 0, 0, 0, ⟨#[]⟩, 0, 0, 0, 0, 0, ⟨none, 0, 0, []⟩, ⟨none, 0, 0, []⟩, ⟨none, 0, 0, []⟩)
abbrev from_ (m : Msg) : Int := m.2.1
abbrev to_ (m : Msg) : Int := m.2.2.1
theorem mLen (m : Msg) : (mE m).length = 13 := rfl
theorem iLen (n : Int) : (iE n).length = 1 := rfl
theorem mOne (m : Msg) : ∀ u ∈ mE m, u.oneCell' = true := fun u hu => by
  simp [pairE, intE, strE, Sl.E] at hu
  rcases hu with rfl | rfl | rfl | rfl | rfl | rfl | rfl | rfl | rfl | rfl | rfl | rfl | rfl <;> rfl
theorem iOne (n : Int) : ∀ u ∈ iE n, u.oneCell' = true := fun u hu => by simp [intE] at hu; subst hu; rfl
theorem tM : ElemT Tryz.prog 28 52 13 160 := .of (by kernel_rfl)
theorem tI : ElemT Tryz.prog 42 3 1 8 := .of (by kernel_rfl)
theorem zM : ∀ i z, Tryz.prog.info? 52 = some i → i.zero = some z → z.cells.toList = mE z0 := fun i z hi hz => by
  have h0 : (Tryz.prog.info? 52).bind (·.zero) = some (.agg (mE z0).toArray) := by kernel_rfl
  rw [hi] at h0
  simp [hz] at h0
  subst h0
  rfl
theorem wrapS {i : Int} (h0 : 0 ≤ i) (h1 : i ≤ 1000000) : IntKind.i64.wrap (i + 1) = i + 1 := wrap64 (by omega) (by omega)
theorem cloneM_ok {H : PHeap} {oa : Option Addr} {n c : Nat} {l : List Msg} (hl : RdL H mE 13 oa n l) (hn : n ≤ 100000) :
    Triple Tryz.prog 106 #[.slice oa n c] H fun v H' => ∃ b k, v = .slice b n k ∧ OwnL H' 52 mE 13 b n k l ∧ Sub H H' ∧ Off H b := by
  refine cloneM.vc oa n c H _ ⟨fun h => ?_, fun h k4 hk4 => ?_⟩
  · have ho : oa = none := by simpa using h
    have hn0 := hl.pos ho
    have hl0 : l = [] := List.eq_nil_of_length_eq_zero (by rw [hl.len, hn0])
    subst hl0 hn0
    exact ⟨none, 0, rfl, Owns.nil _ _ 13, Sub.refl H, Off.none _⟩
  · have hsk := Sub.upd (.cells #[] 52 (0, 0)) hk4
    refine append_rd tM (E := mE) (l := []) mLen (Owns.empty H k4 _ 13) (hl.mono hsk) mOne (by simp [maxLen]; omega) (by omega) ?_
    intro b k H2 how hf hfr
    rw [List.nil_append] at how
    rw [Nat.zero_add] at how ⊢
    exact ⟨b, n, k, rfl, b, k, rfl, how, hf.sub hsk (off_at0 hk4), hfr.off hsk (off_at0 hk4)⟩
theorem cloneI_ok {H : PHeap} {oa : Option Addr} {n c : Nat} {l : List Int} (hl : RdL H iE 1 oa n l) (hn : n ≤ 100000) :
    Triple Tryz.prog 133 #[.slice oa n c] H fun v H' => ∃ b k, v = .slice b n k ∧ OwnL H' 3 iE 1 b n k l ∧ Sub H H' ∧ Off H b := by
  refine cloneI.vc oa n c H _ ⟨fun h => ?_, fun h k4 hk4 => ?_⟩
  · have ho : oa = none := by simpa using h
    have hn0 := hl.pos ho
    have hl0 : l = [] := List.eq_nil_of_length_eq_zero (by rw [hl.len, hn0])
    subst hl0 hn0
    exact ⟨none, 0, rfl, Owns.nil _ _ 1, Sub.refl H, Off.none _⟩
  · have hsk := Sub.upd (.cells #[] 3 (0, 0)) hk4
    refine append_rd tI (E := iE) (l := []) iLen (Owns.empty H k4 _ 1) (hl.mono hsk) iOne (by simp [maxLen]; omega) (by omega) ?_
    intro b k H2 how hf hfr
    rw [List.nil_append] at how
    rw [Nat.zero_add] at how ⊢
    exact ⟨b, n, k, rfl, b, k, rfl, how, hf.sub hsk (off_at0 hk4), hfr.off hsk (off_at0 hk4)⟩
theorem contains_ok {H : PHeap} {oa : Option Addr} {n c : Nat} {l : List Int} {x : Int} (hl : RdL H iE 1 oa n l) (hn : n ≤ 100000) :
    Triple Tryz.prog 59 #[.slice oa n c, .int .i64 x] H fun v H' => v = .bool (decide (x ∈ l)) ∧ H' = H := by
  have hll := hl.len
  have hidx : Triple Tryz.prog 99 #[.slice oa n c, .int .i64 x] H fun v H' => ∃ i : Int, v = .int .i64 i ∧ decide (i ≥ 0) = decide (x ∈ l) ∧ H' = H := by
    refine index.vc oa n c x H _ ⟨fun t H' => match t with | [.int _ i] => 0 ≤ i ∧ i ≤ n ∧ H' = H ∧ x ∉ l.take i.toNat | _ => False, fun t _ => match t with | [.int _ i] => (n - i).toNat | _ => 0, ⟨by omega, by omega, rfl, by simp⟩, ?_⟩
    rintro i H1 ⟨i0, i1, rfl, hno⟩
    obtain ⟨i, rfl⟩ : ∃ j : Nat, i = j := ⟨i.toNat, by omega⟩
    rw [Int.toNat_natCast] at hno
    refine ⟨fun hi => ?_, fun hi => ?_⟩
    · have hi' : i < n := by simpa using hi
      obtain ⟨y, hy, hyr⟩ := hl.ex (i := (i : Int)) (by omega) (by omega)
      rw [Int.toNat_natCast] at hy
      refine ⟨hl.ob (by omega) (by omega), y, hyr, fun he => ⟨_, rfl, ?_, rfl⟩, fun he => ?_⟩
      · have : x = y := by simpa using he
        have h1 : x ∈ l := by rw [this]; exact List.mem_of_getElem? hy
        simp [h1]
      · rw [wrapS (by omega) (by omega)]
        refine ⟨⟨by omega, by omega, rfl, ?_⟩, ⟨by simp only; omega⟩⟩
        have hne : x ≠ y := by simpa using he
        rw [show ((i : Int) + 1).toNat = i + 1 by omega, List.take_add_one, hy]
        simp only [List.mem_append, not_or]
        exact ⟨hno, by simpa using hne⟩
    · have : ¬ i < n := by simpa using hi
      rw [List.take_of_length_le (by omega)] at hno
      exact ⟨_, rfl, by simp [hno], rfl⟩
  refine contains.vc oa n c x H _ (hidx.mono ?_)
  rintro _ H' ⟨i, rfl, he, rfl⟩
  exact ⟨i, rfl, by rw [he], rfl⟩
/-- A function that tells of an element, above a part of the heap. -/
def Tells {α : Type} (F : PHeap) (f : Value) (A : α → Value) (p : α → Bool) : Prop := ∀ (H1 : PHeap) (x : α) (Q : Value → PHeap → Prop), Sub F H1 → (∀ H', Sub H1 H' → Q (.bool (p x)) H') → CallY Tryz.prog f #[A x] H1 Q
theorem idxFuncM_ok {F H : PHeap} {oa : Option Addr} {n c : Nat} {l : List Msg} {f : Value} {p : Msg → Bool} (hF : Sub F H) (hl : RdL H mE 13 oa n l) (hn : n ≤ 100000) (hf : Tells F f (fun m => Value.agg (mE m).toArray) p) :
    Triple Tryz.prog 105 #[.slice oa n c, f] H fun v H' => ∃ i : Int, v = .int .i64 i ∧ Sub H H' ∧ ((i = -1 ∧ l.any p = false) ∨ ∃ (j : Nat) (x : Msg), i = j ∧ l[j]? = some x ∧ p x = true ∧ (l.take j).any p = false) := by
  have hll := hl.len
  refine idxFuncM.vc oa n c f H _ ⟨fun t H' => match t with | [.int _ i] => 0 ≤ i ∧ i ≤ n ∧ Sub H H' ∧ (l.take i.toNat).any p = false | _ => False, fun t _ => match t with | [.int _ i] => (n - i).toNat | _ => 0, ⟨by omega, by omega, Sub.refl _, by simp⟩, ?_⟩
  rintro i H1 ⟨i0, i1, hs, hno⟩
  obtain ⟨i, rfl⟩ : ∃ j : Nat, i = j := ⟨i.toNat, by omega⟩
  rw [Int.toNat_natCast] at hno
  have hl1 := hl.mono hs
  refine ⟨fun hi => ?_, fun hi => ?_⟩
  · have hi' : i < n := by simpa using hi
    obtain ⟨y, hy, hyr⟩ := hl1.ex (i := (i : Int)) (by omega) (by omega)
    rw [Int.toNat_natCast] at hy
    obtain ⟨y1, y2, y3, y4, y5, y6, y7, y8, y9, y10, ⟨ya, yb, yc, yl⟩, ⟨za, zb, zc, zl⟩, ⟨wa, wb, wc, wl⟩⟩ := y
    refine ⟨hl1.ob (by omega) (by omega), y1, y2, y3, y4, y5, y6, y7, y8, y9, y10, ya, yb, yc, za, zb, zc, wa, wb, wc, hyr, hf H1 (y1, y2, y3, y4, y5, y6, y7, y8, y9, y10, ⟨ya, yb, yc, yl⟩, ⟨za, zb, zc, zl⟩, ⟨wa, wb, wc, wl⟩) _ (hF.trans hs) fun H2 hs2 => ⟨_, rfl, fun he => ⟨_, rfl, hs.trans hs2, .inr ⟨i, _, rfl, hy, he, hno⟩⟩, fun he => ?_⟩⟩
    rw [wrapS (by omega) (by omega)]
    refine ⟨⟨by omega, by omega, hs.trans hs2, ?_⟩, ⟨by simp only; omega⟩⟩
    rw [show ((i : Int) + 1).toNat = i + 1 by omega, List.take_add_one, hy, List.any_append, hno]
    simp [he]
  · have : ¬ i < n := by simpa using hi
    rw [List.take_of_length_le (by omega)] at hno
    exact ⟨_, rfl, hs, .inl ⟨rfl, hno⟩⟩
theorem filter_none {α : Type} {p : α → Bool} {l : List α} (h : l.any p = false) : l.filter (fun x => !p x) = l := by
  rw [List.filter_eq_self]
  intro x hx
  have := List.any_eq_false.1 h x hx
  simpa using this
theorem delFunc_own {F H : PHeap} {oa : Option Addr} {n c : Nat} {l : List Msg} {f : Value} {p : Msg → Bool} (hF : Sub F H) (ho : Off F oa) (how : OwnL H 52 mE 13 oa n c l) (hn : n ≤ 100000) (hf : Tells F f (fun m => Value.agg (mE m).toArray) p) :
    Triple Tryz.prog 70 #[.slice oa n c, f] H fun v H' => ∃ m k, v = .slice oa m k ∧ RdL H' mE 13 oa m (l.filter fun x => !p x) ∧ Sub F H' := by
  have hrd := how.rd (E := mE) (sz := 13) (by omega) mLen
  have hll := hrd.len
  have hcap := how.le
  refine delFunc.vc oa n c f H _ ((idxFuncM_ok hF hrd hn hf).mono ?_)
  rintro _ H1 ⟨i, rfl, hs1, hor⟩
  have how1 : OwnL H1 52 mE 13 oa n c l := Owns.mono how fun a o _ hb => hs1.le _ _ hb
  rcases hor with ⟨rfl, hno⟩ | ⟨j, x, rfl, hx, hp, hno⟩
  · refine ⟨_, rfl, fun _ => ⟨n, c, rfl, ?_, hF.trans hs1⟩, fun h => by simp at h⟩
    rw [filter_none hno]
    exact hrd.mono hs1
  · have hjn : j < n := by rw [← hll]; exact (List.getElem?_eq_some_iff.1 hx).1
    refine ⟨_, rfl, fun h => by simp at h, fun _ => ?_⟩
    refine ⟨fun t H' => match t with | [.int _ i, .int _ q] => 0 ≤ i ∧ i < q ∧ q ≤ n ∧ Sub F H' ∧ ∃ l' : List Msg, OwnL H' 52 mE 13 oa n c l' ∧ l'.take i.toNat = (l.take q.toNat).filter (fun x => !p x) ∧ l'.drop q.toNat = l.drop q.toNat | _ => False, fun t _ => match t with | [_, .int _ q] => (n - q).toNat | _ => 0, ?_, ?_⟩
    · rw [wrapS (by omega) (by omega)]
      refine ⟨by omega, by omega, by omega, hF.trans hs1, l, how1, ?_, rfl⟩
      rw [Int.toNat_natCast, show ((j : Int) + 1).toNat = j + 1 by omega, List.take_add_one, hx, List.filter_append, filter_none hno]
      simp [hp]
    · rintro i q H2 ⟨i0, i1, i2, hs2, l', how2, ht, hd⟩
      obtain ⟨i, rfl⟩ : ∃ j : Nat, i = j := ⟨i.toNat, by omega⟩
      obtain ⟨q, rfl⟩ : ∃ j : Nat, q = j := ⟨q.toNat, by omega⟩
      rw [Int.toNat_natCast, Int.toNat_natCast] at ht
      rw [Int.toNat_natCast] at hd
      have hrd2 := how2.rd (E := mE) (sz := 13) (by omega) mLen
      have hll2 := hrd2.len
      refine ⟨fun hi => ?_, fun hi => ?_⟩
      · have hq' : q < n := by simpa using hi
        obtain ⟨y, hy, hyr⟩ := hrd2.ex (i := (q : Int)) (by omega) (by omega)
        rw [Int.toNat_natCast] at hy
        have hyl : l[q]? = some y := by
          have h1 : (l'.drop q)[0]? = (l.drop q)[0]? := by rw [hd]
          rw [List.getElem?_drop, List.getElem?_drop, Nat.add_zero, hy] at h1
          exact h1.symm
        have htk : l.take (q + 1) = l.take q ++ [y] := by rw [List.take_add_one, hyl]; rfl
        have hdr : l'.drop (q + 1) = l.drop (q + 1) := by rw [← List.drop_drop, hd, List.drop_drop]
        have ew1 : IntKind.i64.wrap ((q : Int) + 1) = (q : Int) + 1 := wrapS (by omega) (by omega)
        have ew2 : IntKind.i64.wrap ((i : Int) + 1) = (i : Int) + 1 := wrapS (by omega) (by omega)
        rw [ew1, ew2]
        obtain ⟨y1, y2, y3, y4, y5, y6, y7, y8, y9, y10, ⟨ya, yb, yc, yl⟩, ⟨za, zb, zc, zl⟩, ⟨wa, wb, wc, wl⟩⟩ := y
        refine ⟨hrd2.ob (by omega) (by omega), y1, y2, y3, y4, y5, y6, y7, y8, y9, y10, ya, yb, yc, za, zb, zc, wa, wb, wc, hyr, hf H2 (y1, y2, y3, y4, y5, y6, y7, y8, y9, y10, ⟨ya, yb, yc, yl⟩, ⟨za, zb, zc, zl⟩, ⟨wa, wb, wc, wl⟩) _ hs2 fun H3 hs3 => ⟨_, rfl, fun he => ?_, fun he => ?_⟩⟩
        · have how3 : OwnL H3 52 mE 13 oa n c l' := Owns.mono how2 fun a o _ hb => hs3.le _ _ hb
          obtain ⟨H4, hw, how4, hf4⟩ := Owns.set mLen how3 (by omega) (i := (i : Int)) (by omega) (by omega) ((y1, y2, y3, y4, y5, y6, y7, y8, y9, y10, ⟨ya, yb, yc, yl⟩, ⟨za, zb, zc, zl⟩, ⟨wa, wb, wc, wl⟩) : Msg)
          rw [Int.toNat_natCast] at how4
          refine ⟨hrd2.ob (by omega) (by omega), H4, hw, ⟨by omega, by omega, by omega, hf4.sub (hs2.trans hs3) ho, _, how4, ?_, ?_⟩, ⟨by simp only; omega⟩⟩
          · rw [show ((i : Int) + 1).toNat = i + 1 by omega, show ((q : Int) + 1).toNat = q + 1 by omega, htk, List.filter_append, ← ht, List.take_add_one, List.getElem?_set_self (by omega), List.take_set_of_le (Nat.le_refl _)]
            have : p (y1, y2, y3, y4, y5, y6, y7, y8, y9, y10, ⟨ya, yb, yc, yl⟩, ⟨za, zb, zc, zl⟩, ⟨wa, wb, wc, wl⟩) = false := by simpa using he
            simp [this]
          · rw [show ((q : Int) + 1).toNat = q + 1 by omega, ← hdr, List.drop_set_of_lt (by omega)]
        · refine ⟨⟨by omega, by omega, by omega, hs2.trans hs3, l', Owns.mono how2 fun a o _ hb => hs3.le _ _ hb, ?_, ?_⟩, ⟨by simp only; omega⟩⟩
          · rw [Int.toNat_natCast, show ((q : Int) + 1).toNat = q + 1 by omega, htk, List.filter_append, ← ht]
            have : p (y1, y2, y3, y4, y5, y6, y7, y8, y9, y10, ⟨ya, yb, yc, yl⟩, ⟨za, zb, zc, zl⟩, ⟨wa, wb, wc, wl⟩) = true := by simpa using he
            simp [this]
          · rw [show ((q : Int) + 1).toNat = q + 1 by omega]; exact hdr
      · have hqn : q = n := by
          have : ¬ q < n := by simpa using hi
          omega
        subst hqn
        have hone : oa ≠ none := hrd2.ne (i := 0) (by omega) (by omega)
        obtain ⟨H3, hw, how3, hf3⟩ := how2.put (p := i) (ys := (List.replicate (q - i) z0).flatMap mE) (by rw [length_flatMap mLen, List.length_replicate]; omega) hone
        refine ⟨⟨by omega, by omega, by omega⟩, ?_⟩
        simp only [Int.toNat_natCast, Int.toNat_zero, Nat.sub_zero, slA_zero]
        rw [slA_pos (show (i : Int) ≠ c by omega)]
        refine clear_rw tM (E := mE) (Z := z0) zM (mOne z0) (fun e => absurd e (hrd2.elem_ne (by omega) (by omega))) (.inr hw) ?_
        refine ⟨⟨by omega, by omega, by omega⟩, i, c, rfl, ?_, hf3.sub hs2 ho⟩
        have h5 := how3.cut (m := i) (by omega)
        rw [List.append_assoc, List.take_append_of_le_length (by rw [List.length_take, length_flatMap mLen, hll2]; omega), List.take_take, Nat.min_self] at h5
        have e1 : (l'.flatMap mE).take (i * 13) = (l'.take i).flatMap mE := by
          conv => lhs; rw [← List.take_append_drop i l', List.flatMap_append]
          rw [List.take_left' (by rw [length_flatMap mLen, List.length_take]; omega)]
        rw [e1, ht, List.take_of_length_le (by omega)] at h5
        exact Owns.rd (E := mE) (sz := 13) (by omega) mLen h5
theorem delFunc_ok {F H : PHeap} {oa : Option Addr} {n c : Nat} {l : List Msg} {f : Value} {p : Msg → Bool} (hF : Sub F H) (ho : Off F oa) (how : OwnL H 52 mE 13 oa n c l) (hn : n ≤ 100000) (hf : Tells F f (fun m => Value.agg (mE m).toArray) p) :
    Triple Tryz.prog 70 #[.slice oa n c, f] H fun v H' => ∃ b m k, v = .slice b m k ∧ RdL H' mE 13 b m (l.filter fun x => !p x) ∧ Sub F H' :=
  (delFunc_own hF ho how hn hf).mono fun v H' ⟨m, k, h⟩ => ⟨oa, m, k, h⟩
end Go.Rnd
namespace Go.Rnd
open Go.Vx Go.Vc Go.Proofs
theorem contFunc_ok {F H : PHeap} {oa : Option Addr} {n c : Nat} {l : List Int} {f : Value} {p : Int → Bool} (hF : Sub F H) (hl : RdL H iE 1 oa n l) (hn : n ≤ 100000) (hf : Tells F f (Value.int .i64) p) :
    Triple Tryz.prog 81 #[.slice oa n c, f] H fun v H' => v = .bool (l.any p) ∧ Sub H H' := by
  have hll := hl.len
  have hidx : Triple Tryz.prog 118 #[.slice oa n c, f] H fun v H' => ∃ i : Int, v = .int .i64 i ∧ decide (i ≥ 0) = l.any p ∧ Sub H H' := by
    refine idxFunc.vc oa n c f H _ ⟨fun t H' => match t with | [.int _ i] => 0 ≤ i ∧ i ≤ n ∧ Sub H H' ∧ (l.take i.toNat).any p = false | _ => False, fun t _ => match t with | [.int _ i] => (n - i).toNat | _ => 0, ⟨by omega, by omega, Sub.refl _, by simp⟩, ?_⟩
    rintro i H1 ⟨i0, i1, hs, hno⟩
    obtain ⟨i, rfl⟩ : ∃ j : Nat, i = j := ⟨i.toNat, by omega⟩
    rw [Int.toNat_natCast] at hno
    have hl1 := hl.mono hs
    refine ⟨fun hi => ?_, fun hi => ?_⟩
    · have hi' : i < n := by simpa using hi
      obtain ⟨y, hy, hyr⟩ := hl1.ex (i := (i : Int)) (by omega) (by omega)
      rw [Int.toNat_natCast] at hy
      refine ⟨hl1.ob (by omega) (by omega), y, hyr, hf H1 y _ (hF.trans hs) fun H2 hs2 => ⟨_, rfl, fun he => ⟨_, rfl, ?_, hs.trans hs2⟩, fun he => ?_⟩⟩
      · have h1 : l.any p = true := List.any_eq_true.2 ⟨y, List.mem_of_getElem? hy, he⟩
        simp [h1]
      · rw [wrapS (by omega) (by omega)]
        refine ⟨⟨by omega, by omega, hs.trans hs2, ?_⟩, ⟨by simp only; omega⟩⟩
        rw [show ((i : Int) + 1).toNat = i + 1 by omega, List.take_add_one, hy, List.any_append, hno]
        simp [he]
    · have : ¬ i < n := by simpa using hi
      rw [List.take_of_length_le (by omega)] at hno
      exact ⟨_, rfl, by simp [hno], hs⟩
  refine contFunc.vc oa n c f H _ (hidx.mono ?_)
  rintro _ H' ⟨i, rfl, he, hs⟩
  exact ⟨i, rfl, by rw [he], hs⟩
end Go.Rnd
namespace Go.Proofs
open Go.Shelf
def Tryz.lays189_ren : Go.Shelf.Ren := ⟨fun | 189 => 121 | 125 => 148 | 257 => 147 | 128 => 175 | 129 => 176 | 294 => 166 | 295 => 167 | 296 => 168 | 297 => 169 | 298 => 170 | 299 => 171 | 216 => 172 | 300 => 173 | 301 => 174 | 328 => 183 | 329 => 184 | 330 => 185 | 331 => 186 | 332 => 187 | 215 => 188 | 343 => 198 | n => n, fun | 28 => 42 | 3 => 3 | 46 => 183 | 0 => 0 | 51 => 206 | 53 => 208 | 4 => 4 | 183 => 199 | 182 => 198 | 131 => 203 | 5 => 5 | 9 => 9 | 218 => 214 | 222 => 218 | 228 => 225 | 229 => 226 | n => n, fun | n => n⟩
theorem Tryz.lays189 : Go.Proofs.Lays.n189 Tryz.prog Tryz.lays189_ren := {
  mixed := by kernel_rfl
  f125 := Tryz.func148.trans (congrArg some (by kernel_rfl))
  f128 := Tryz.func175.trans (congrArg some (by kernel_rfl))
  f129 := Tryz.func176.trans (congrArg some (by kernel_rfl))
  f189 := Tryz.func121.trans (congrArg some (by kernel_rfl))
  f215 := Tryz.func188.trans (congrArg some (by kernel_rfl))
  f216 := Tryz.func172.trans (congrArg some (by kernel_rfl))
  f257 := Tryz.func147.trans (congrArg some (by kernel_rfl))
  f294 := Tryz.func166.trans (congrArg some (by kernel_rfl))
  f295 := Tryz.func167.trans (congrArg some (by kernel_rfl))
  f296 := Tryz.func168.trans (congrArg some (by kernel_rfl))
  f297 := Tryz.func169.trans (congrArg some (by kernel_rfl))
  f298 := Tryz.func170.trans (congrArg some (by kernel_rfl))
  f299 := Tryz.func171.trans (congrArg some (by kernel_rfl))
  f300 := Tryz.func173.trans (congrArg some (by kernel_rfl))
  f301 := Tryz.func174.trans (congrArg some (by kernel_rfl))
  f328 := Tryz.func183.trans (congrArg some (by kernel_rfl))
  f329 := Tryz.func184.trans (congrArg some (by kernel_rfl))
  f330 := Tryz.func185.trans (congrArg some (by kernel_rfl))
  f331 := Tryz.func186.trans (congrArg some (by kernel_rfl))
  f332 := Tryz.func187.trans (congrArg some (by kernel_rfl))
  f343 := Tryz.func198.trans (congrArg some (by kernel_rfl))
  t0 := Tryz.underlying0
  a0 := Tryz.isAgg0
  z0 := Tryz.sizeOf0
  v0 := Tryz.zeroValue0
  t3 := Tryz.underlying3
  a3 := Tryz.isAgg3
  z3 := Tryz.sizeOf3
  v3 := Tryz.zeroValue3
  t4 := Tryz.underlying4
  a4 := Tryz.isAgg4
  z4 := Tryz.sizeOf4
  v4 := Tryz.zeroValue4
  t5 := Tryz.underlying5
  a5 := Tryz.isAgg5
  z5 := Tryz.sizeOf5
  v5 := Tryz.zeroValue5
  t9 := Tryz.underlying9
  a9 := Tryz.isAgg9
  z9 := Tryz.sizeOf9
  v9 := Tryz.zeroValue9
  t28 := Tryz.underlying42
  a28 := Tryz.isAgg42
  z28 := Tryz.sizeOf42
  v28 := Tryz.zeroValue42
  t46 := Tryz.underlying183
  a46 := Tryz.isAgg183
  z46 := Tryz.sizeOf183
  v46 := Tryz.zeroValue183
  t51 := Tryz.underlying206
  a51 := Tryz.isAgg206
  z51 := Tryz.sizeOf206
  v51 := Tryz.zeroValue206
  t53 := Tryz.underlying208
  a53 := Tryz.isAgg208
  z53 := Tryz.sizeOf208
  v53 := Tryz.zeroValue208
  t131 := Tryz.underlying203
  a131 := Tryz.isAgg203
  z131 := Tryz.sizeOf203
  v131 := Tryz.zeroValue203
  t182 := Tryz.underlying198
  a182 := Tryz.isAgg198
  z182 := Tryz.sizeOf198
  v182 := Tryz.zeroValue198
  t183 := Tryz.underlying199
  a183 := Tryz.isAgg199
  z183 := Tryz.sizeOf199
  v183 := Tryz.zeroValue199
  t218 := Tryz.underlying214
  a218 := Tryz.isAgg214
  z218 := Tryz.sizeOf214
  v218 := Tryz.zeroValue214
  t222 := Tryz.underlying218
  a222 := Tryz.isAgg218
  z222 := Tryz.sizeOf218
  v222 := Tryz.zeroValue218
  t228 := Tryz.underlying225
  a228 := Tryz.isAgg225
  z228 := Tryz.sizeOf225
  v228 := Tryz.zeroValue225
  t229 := Tryz.underlying226
  a229 := Tryz.isAgg226
  z229 := Tryz.sizeOf226
  v229 := Tryz.zeroValue226 }
open Go.Sort Go.RowKit in
theorem Tryz.slices_Sort_int (blk off cap : Nat) (zs : List Int) (w : World) (hH : Holds (Value.int .i64) w blk off zs.toArray) (hblk : blk < w.heap.size) (hsz : zs.length < 4611686018427387904) :
    Calls Tryz.prog 121 #[.slice (some ⟨blk, off, none⟩) zs.length cap] w fun e w' =>
      e = .returned (.tuple #[]) ∧ ∃ n os, w' = grow (putRow (Value.int .i64) (Sort.ahead w n) blk off (zs.mergeSort fun x y => decide (x ≤ y)).toArray) os := Any.slices_Sort_int Tryz.lays189 blk off cap zs w hH hblk hsz
def Tryz.lays190_ren : Go.Shelf.Ren := ⟨fun | 190 => 153 | 125 => 148 | 258 => 178 | 128 => 175 | 129 => 176 | 302 => 189 | 303 => 190 | 304 => 191 | 305 => 192 | 306 => 193 | 307 => 194 | 308 => 195 | 309 => 196 | 310 => 197 | 333 => 199 | 329 => 184 | 330 => 185 | 334 => 200 | 335 => 201 | 336 => 202 | 344 => 203 | n => n, fun | 31 => 49 | 9 => 9 | 3 => 3 | 46 => 183 | 0 => 0 | 51 => 206 | 53 => 208 | 4 => 4 | 183 => 199 | 182 => 198 | 131 => 203 | 5 => 5 | 218 => 214 | 222 => 218 | 228 => 225 | 229 => 226 | n => n, fun | n => n⟩
theorem Tryz.lays190 : Go.Proofs.Lays.n190 Tryz.prog Tryz.lays190_ren := {
  mixed := by kernel_rfl
  f125 := Tryz.func148.trans (congrArg some (by kernel_rfl))
  f128 := Tryz.func175.trans (congrArg some (by kernel_rfl))
  f129 := Tryz.func176.trans (congrArg some (by kernel_rfl))
  f190 := Tryz.func153.trans (congrArg some (by kernel_rfl))
  f258 := Tryz.func178.trans (congrArg some (by kernel_rfl))
  f302 := Tryz.func189.trans (congrArg some (by kernel_rfl))
  f303 := Tryz.func190.trans (congrArg some (by kernel_rfl))
  f304 := Tryz.func191.trans (congrArg some (by kernel_rfl))
  f305 := Tryz.func192.trans (congrArg some (by kernel_rfl))
  f306 := Tryz.func193.trans (congrArg some (by kernel_rfl))
  f307 := Tryz.func194.trans (congrArg some (by kernel_rfl))
  f308 := Tryz.func195.trans (congrArg some (by kernel_rfl))
  f309 := Tryz.func196.trans (congrArg some (by kernel_rfl))
  f310 := Tryz.func197.trans (congrArg some (by kernel_rfl))
  f329 := Tryz.func184.trans (congrArg some (by kernel_rfl))
  f330 := Tryz.func185.trans (congrArg some (by kernel_rfl))
  f333 := Tryz.func199.trans (congrArg some (by kernel_rfl))
  f334 := Tryz.func200.trans (congrArg some (by kernel_rfl))
  f335 := Tryz.func201.trans (congrArg some (by kernel_rfl))
  f336 := Tryz.func202.trans (congrArg some (by kernel_rfl))
  f344 := Tryz.func203.trans (congrArg some (by kernel_rfl))
  t0 := Tryz.underlying0
  a0 := Tryz.isAgg0
  z0 := Tryz.sizeOf0
  v0 := Tryz.zeroValue0
  t3 := Tryz.underlying3
  a3 := Tryz.isAgg3
  z3 := Tryz.sizeOf3
  v3 := Tryz.zeroValue3
  t4 := Tryz.underlying4
  a4 := Tryz.isAgg4
  z4 := Tryz.sizeOf4
  v4 := Tryz.zeroValue4
  t5 := Tryz.underlying5
  a5 := Tryz.isAgg5
  z5 := Tryz.sizeOf5
  v5 := Tryz.zeroValue5
  t9 := Tryz.underlying9
  a9 := Tryz.isAgg9
  z9 := Tryz.sizeOf9
  v9 := Tryz.zeroValue9
  t31 := Tryz.underlying49
  a31 := Tryz.isAgg49
  z31 := Tryz.sizeOf49
  v31 := Tryz.zeroValue49
  t46 := Tryz.underlying183
  a46 := Tryz.isAgg183
  z46 := Tryz.sizeOf183
  v46 := Tryz.zeroValue183
  t51 := Tryz.underlying206
  a51 := Tryz.isAgg206
  z51 := Tryz.sizeOf206
  v51 := Tryz.zeroValue206
  t53 := Tryz.underlying208
  a53 := Tryz.isAgg208
  z53 := Tryz.sizeOf208
  v53 := Tryz.zeroValue208
  t131 := Tryz.underlying203
  a131 := Tryz.isAgg203
  z131 := Tryz.sizeOf203
  v131 := Tryz.zeroValue203
  t182 := Tryz.underlying198
  a182 := Tryz.isAgg198
  z182 := Tryz.sizeOf198
  v182 := Tryz.zeroValue198
  t183 := Tryz.underlying199
  a183 := Tryz.isAgg199
  z183 := Tryz.sizeOf199
  v183 := Tryz.zeroValue199
  t218 := Tryz.underlying214
  a218 := Tryz.isAgg214
  z218 := Tryz.sizeOf214
  v218 := Tryz.zeroValue214
  t222 := Tryz.underlying218
  a222 := Tryz.isAgg218
  z222 := Tryz.sizeOf218
  v222 := Tryz.zeroValue218
  t228 := Tryz.underlying225
  a228 := Tryz.isAgg225
  z228 := Tryz.sizeOf225
  v228 := Tryz.zeroValue225
  t229 := Tryz.underlying226
  a229 := Tryz.isAgg226
  z229 := Tryz.sizeOf226
  v229 := Tryz.zeroValue226 }
open Go.Sort Go.RowKit in
theorem Tryz.slices_Sort_string (blk off cap : Nat) (ss : List (List UInt8)) (w : World) (hH : Holds encStr w blk off ss.toArray) (hblk : blk < w.heap.size) (hsz : ss.length < 4611686018427387904) :
    Calls Tryz.prog 153 #[.slice (some ⟨blk, off, none⟩) ss.length cap] w fun e w' =>
      e = .returned (.tuple #[]) ∧ ∃ n os, w' = grow (putRow encStr (Sort.ahead w n) blk off (ss.mergeSort fun x y => decide (x ≤ y)).toArray) os := Any.slices_Sort_string Tryz.lays190 blk off cap ss w hH hblk hsz
open Go.RowKit Go.Sort in
theorem Tryz.slices_Sort_string_none (p : Option Addr) (cap : Nat) (w : World) :
    Calls Tryz.prog 153 #[.slice p 0 cap] w fun e w' => e = .returned (.tuple #[]) ∧ w' = w := Any.slices_Sort_string_none Tryz.lays190 p cap w
open Go.RowKit Go.Sort in
theorem Tryz.slices_Sort_int_none (p : Option Addr) (cap : Nat) (w : World) :
    Calls Tryz.prog 121 #[.slice p 0 cap] w fun e w' => e = .returned (.tuple #[]) ∧ w' = w := Any.slices_Sort_int_none Tryz.lays189 p cap w
end Go.Proofs
namespace Go.Rnd
open Go.Vx Go.Vc Go.Proofs
theorem sortI : SortC Tryz.prog 121 (Value.int .i64) (fun zs : List Int => zs.mergeSort fun x y => decide (x ≤ y)) :=
  ⟨fun blk cap zs w h1 h2 h3 => Tryz.slices_Sort_int blk 0 cap zs w h1 h2 h3, fun cap w => Tryz.slices_Sort_int_none none cap w, fun zs => List.length_mergeSort _⟩
abbrev vM (m : Msg) : Value := .agg (mE m).toArray
theorem mapT : MapT Tryz.prog 117 (Value.int .i64) (vM z0) := ⟨3, 52, .int .i64, by kernel_rfl, by kernel_rfl, by kernel_rfl, fun _ => rfl, fun a b h => by injection h⟩
theorem getD_vM (o : Option Msg) : (o.map vM).getD (vM z0) = vM (o.getD z0) := by cases o <;> rfl
/-- The block k holds a round, apart from F, which holds what it reads. -/
structure RdS (F H : PHeap) (k : Nat) (asks : List Msg) (wait : List Int) (got : List (Int × Msg)) (tries : Int) : Prop where
  sub : Sub F H
  off : F k = none
  row : ∃ oa n c ob m d gb, Bx H k 119 [.slice oa n c, .slice ob m d, .map (some gb), .int .i64 tries] ∧ RdL F mE 13 oa n asks ∧ RdL F iE 1 ob m wait ∧ Mp H gb (Value.int .i64) vM got ∧ F gb = none ∧ gb ≠ k ∧ n ≤ 100000 ∧ m ≤ 100000
theorem RdS.mono {F H H' : PHeap} {k : Nat} {asks : List Msg} {wait : List Int} {got : List (Int × Msg)} {tries : Int} (h : RdS F H k asks wait got tries) (hs : Sub H H') : RdS F H' k asks wait got tries := by
  obtain ⟨oa, n, c, ob, m, d, gb, h1, h2, h3, h4, h5⟩ := h.row
  exact ⟨h.sub.trans hs, h.off, oa, n, c, ob, m, d, gb, h1.sub hs, h2, h3, h4.mono fun o ho => hs.le _ _ ho, h5⟩
theorem neP (k : Nat) : Ob (at0 k ≠ none) := ⟨by simp [at0]⟩
theorem new_ok {H : PHeap} {oa ob : Option Addr} {n c m d : Nat} {asks : List Msg} {wait : List Int} {tries : Int} (h1 : RdL H mE 13 oa n asks) (h2 : RdL H iE 1 ob m wait) (hn : n ≤ 100000) (hm : m ≤ 100000) :
    Triple Tryz.prog 100 #[.int .i64 tries, .slice oa n c, .slice ob m d] H fun v H' => ∃ k F, v = .pointer (at0 k) ∧ RdS F H' k asks wait [] (maxI tries 0) ∧ Sub H F := by
  refine newR.vc tries oa n c ob m d H _ ((cloneM_ok h1 hn).mono ?_)
  rintro _ H1 ⟨b1, k1, rfl, g1, s1, _⟩
  refine ⟨b1, n, k1, rfl, (cloneI_ok (h2.mono s1) hm).mono ?_⟩
  rintro _ H2 ⟨b2, k2, rfl, g2, s2, _⟩
  refine ⟨b2, m, k2, rfl, makeMap_mp fun b hb => ⟨some b, rfl, fun k hk => ?_⟩⟩
  have hkb : b ≠ k := fun e => by rw [e, upd_eq] at hk; cases hk
  have hk2 : H2 k = none := by rwa [Vx.upd_ne _ _ (fun e => hkb e.symm)] at hk
  refine ⟨k, H2, rfl, ⟨(Sub.upd _ hb).trans (Sub.upd _ hk), hk2, b1, n, k1, b2, m, k2, b, Bx.new _ k _ _, (g1.rd (E := mE) (sz := 13) (by omega) mLen).mono s2, g2.rd (E := iE) (sz := 1) (by omega) iLen, ?_, hb, hkb, hn, hm⟩, s1.trans s2⟩
  exact (Mp.new H2 b _ _).mono fun o ho => (Sub.upd _ hk).le _ _ ho
theorem asks_ok {F H : PHeap} {k : Nat} {asks : List Msg} {wait : List Int} {got : List (Int × Msg)} {tries : Int} (h : RdS F H k asks wait got tries) :
    Triple Tryz.prog 71 #[.pointer (at0 k)] H fun v H' => ∃ b n c, v = .slice b n c ∧ OwnL H' 52 mE 13 b n c asks ∧ Sub H H' ∧ Off H b := by
  obtain ⟨oa, n, c, ob, m, d, gb, h1, h2, h3, h4, h5, h6, h7, h8⟩ := h.row
  refine asksR.vc (at0 k) H _ ⟨fun e => by simp [at0] at e, fun _ => ⟨neP k, neP k, oa, n, c, h1.readsAt 0 (fun j v hv => ?_), (cloneM_ok (h2.mono h.sub) h7).mono ?_⟩⟩
  · match j, hv with
    | 0, hv => simpa using hv
    | j + 1, hv => simp at hv
  · rintro _ H' ⟨b, q, rfl, g1, g2, g3⟩
    exact ⟨b, n, q, rfl, b, n, q, rfl, g1, g2, g3⟩
/-- Everybody has answered. -/
def allB (wait : List Int) (got : List (Int × Msg)) : Bool := wait.all fun i => (mlook got i).isSome
theorem all_ok {F H : PHeap} {k : Nat} {asks : List Msg} {wait : List Int} {got : List (Int × Msg)} {tries : Int} (h : RdS F H k asks wait got tries) :
    Triple Tryz.prog 45 #[.pointer (at0 k)] H fun v H' => v = .bool (allB wait got) ∧ Sub H H' := by
  refine allR.vc (at0 k) H _ fun k2 hk2 => ?_
  have hs2 := Sub.upd (.cells #[.pointer (at0 k)] 66) hk2
  have b2 : Bx (H.upd k2 (.cells #[.pointer (at0 k)] 66)) k2 66 [.pointer (at0 k)] := Bx.new H k2 _ [.pointer (at0 k)]
  generalize H.upd k2 (.cells #[.pointer (at0 k)] 66) = H2 at *
  have h' := h.mono hs2
  obtain ⟨oa, n, c, ob, m, d, gb, h1, h2, h3, h4, h5, h6, h7, h8⟩ := h'.row
  refine ⟨at0 k, b2.reads, fun e => by simp [at0] at e, fun _ => ⟨at0 k, b2.reads, neP k, neP k, ob, m, d, h1.readsAt 1 (fun j v hv => ?_), ?_⟩⟩
  · match j, hv with
    | 0, hv => simpa using hv
    | j + 1, hv => simp at hv
  refine (contFunc_ok (F := H2) (p := fun i => !(mlook got i).isSome) (Sub.refl _) (h3.mono h'.sub) h8 fun H1 i Q hs hQ => ?_).mono ?_
  · refine CallY.fn (by kernel_rfl) ?_
    have hb := h1.sub hs
    refine allR1.vc i (at0 k2) H1 Q ⟨at0 k, (b2.sub hs).reads, neP k, neP k, some gb, hb.readsAt 2 (fun j v hv => ?_), map_get mapT (h4.mono fun o ho => hs.le _ _ ho) ?_⟩
    · match j, hv with
      | 0, hv => simpa using hv
      | j + 1, hv => simp at hv
    · rw [if_pos rfl, getD_vM]
      obtain ⟨y1, y2, y3, y4, y5, y6, y7, y8, y9, y10, ⟨ya, yb, yc, yl⟩, ⟨za, zb, zc, zl⟩, ⟨wa, wb, wc, wl⟩⟩ := (mlook got i).getD z0
      exact ⟨y1, y2, y3, y4, y5, y6, y7, y8, y9, y10, ya, yb, yc, za, zb, zc, wa, wb, wc, _, rfl, hQ H1 (Sub.refl _)⟩
  · rintro _ H3 ⟨rfl, hs3⟩
    refine ⟨_, rfl, ?_, hs2.trans hs3⟩
    congr 1
    unfold allB
    rw [List.any_eq_not_all_not]
    simp
/-- Does an answer count? -/
def takesB (wait : List Int) (got : List (Int × Msg)) (m : Msg) : Bool := decide (from_ m ∈ wait) && (mlook got (from_ m)).isNone
theorem take_ok {F H : PHeap} {k : Nat} {asks : List Msg} {wait : List Int} {got : List (Int × Msg)} {tries : Int} {m : Msg} (h : RdS F H k asks wait got tries) :
    Triple Tryz.prog 44 #[.pointer (at0 k), vM m] H fun v H' => v = .bool (takesB wait got m) ∧ RdS F H' k asks wait (if takesB wait got m then got ++ [(from_ m, m)] else got) tries := by
  obtain ⟨oa, n, c, ob, q, d, gb, h1, h2, h3, h4, h5, h6, h7, h8⟩ := h.row
  obtain ⟨y1, y2, y3, y4, y5, y6, y7, y8, y9, y10, ⟨ya, yb, yc, yl⟩, ⟨za, zb, zc, zl⟩, ⟨wa, wb, wc, wl⟩⟩ := m
  have r2 : ∀ {G : PHeap}, Sub H G → Reads G (fldA (at0 k) 2) [.map (some gb)] := fun hs => (h1.sub hs).readsAt 2 (fun j v hv => by
    match j, hv with
    | 0, hv => simpa using hv
    | j + 1, hv => simp at hv)
  refine takeR.vc (at0 k) y1 y2 y3 y4 y5 y6 y7 y8 y9 y10 ya yb yc za zb zc wa wb wc H _ ⟨H, Sub.refl _, fun _ => ⟨neP k, neP k, ob, q, d, h1.readsAt 1 (fun j v hv => ?_), (contains_ok (h3.mono h.sub) h8).mono ?_⟩, fun e => by simp [at0] at e⟩
  · match j, hv with
    | 0, hv => simpa using hv
    | j + 1, hv => simp at hv
  rintro _ H ⟨rfl, rfl⟩
  refine ⟨_, rfl, fun hb => ?_, fun hb => ?_⟩
  · have hno : y2 ∉ wait := by simpa using hb
    have e : takesB wait got (y1, y2, y3, y4, y5, y6, y7, y8, y9, y10, ⟨ya, yb, yc, yl⟩, ⟨za, zb, zc, zl⟩, ⟨wa, wb, wc, wl⟩) = false := by simp [takesB, hno]
    rw [e]; exact ⟨rfl, h⟩
  · have hin : y2 ∈ wait := by simpa using hb
    refine ⟨H, Sub.refl _, neP k, neP k, some gb, r2 (Sub.refl _), map_get mapT h4 ?_⟩
    rw [if_pos rfl, getD_vM]
    have hM : ∀ M : Msg, ∃ (n31 n32 n33 n34 : Int) (s35 : ByteArray) (n36 n37 n38 n39 n40 : Int) (a41 : Option Addr) (k42 k43 : Nat) (a44 : Option Addr) (k45 k46 : Nat) (a47 : Option Addr) (k48 k49 : Nat), vM M = .agg #[.int .i64 n31, .int .i64 n32, .int .i64 n33, .int .i64 n34, .string s35, .int .i64 n36, .int .i64 n37, .int .i64 n38, .int .i64 n39, .int .i64 n40, .slice a41 k42 k43, .slice a44 k45 k46, .slice a47 k48 k49] := fun M => by
      obtain ⟨x1, x2, x3, x4, x5, x6, x7, x8, x9, x10, ⟨xa, xb, xc, xl⟩, ⟨va, vb, vc, vl⟩, ⟨ua, ub, uc, ul⟩⟩ := M
      exact ⟨x1, x2, x3, x4, x5, x6, x7, x8, x9, x10, xa, xb, xc, va, vb, vc, ua, ub, uc, rfl⟩
    obtain ⟨n31, n32, n33, n34, s35, n36, n37, n38, n39, n40, a41, k42, k43, a44, k45, k46, a47, k48, k49, eM⟩ := hM ((mlook got y2).getD z0)
    refine ⟨n31, n32, n33, n34, s35, n36, n37, n38, n39, n40, a41, k42, k43, a44, k45, k46, a47, k48, k49, _, by rw [eM], fun k5 hk5 => ?_⟩
    have hs5 := Sub.upd (.cells (mE z0).toArray 52 (0, 0)) hk5
    have b5 : Bx (H.upd k5 (.cells (mE z0).toArray 52 (0, 0))) k5 52 (mE z0) := Bx.new H k5 _ _
    refine ⟨hs5, _, b5.writes [.int .i64 n31, .int .i64 n32, .int .i64 n33, .int .i64 n34, .string s35, .int .i64 n36, .int .i64 n37, .int .i64 n38, .int .i64 n39, .int .i64 n40, .slice a41 k42 k43, .slice a44 k45 k46, .slice a47 k48 k49] rfl, fun his => ?_, fun his => ?_⟩
    · have e : takesB wait got (y1, y2, y3, y4, y5, y6, y7, y8, y9, y10, ⟨ya, yb, yc, yl⟩, ⟨za, zb, zc, zl⟩, ⟨wa, wb, wc, wl⟩) = false := by
        simp only [takesB, from_]
        cases hl : mlook got y2 with
        | none => rw [hl] at his; simp at his
        | some v => simp
      rw [e]
      exact ⟨rfl, h.mono (Bx.sub_of hs5 hk5)⟩
    · have hln : mlook got y2 = none := by
        cases hl : mlook got y2 with
        | none => rfl
        | some v => rw [hl] at his; simp at his
      have e : takesB wait got (y1, y2, y3, y4, y5, y6, y7, y8, y9, y10, ⟨ya, yb, yc, yl⟩, ⟨za, zb, zc, zl⟩, ⟨wa, wb, wc, wl⟩) = true := by
        simp [takesB, from_, hln, hin]
      rw [e]
      have hs6 := Bx.sub_of (o := .cells [Value.int .i64 n31, .int .i64 n32, .int .i64 n33, .int .i64 n34, .string s35, .int .i64 n36, .int .i64 n37, .int .i64 n38, .int .i64 n39, .int .i64 n40, .slice a41 k42 k43, .slice a44 k45 k46, .slice a47 k48 k49].toArray 52 (0, 0)) hs5 hk5
      have h6' := h.mono hs6
      refine ⟨_, Sub.refl _, neP k, neP k, some gb, r2 hs6, ?_⟩
      refine map_put (vE := vM) (v := (y1, y2, y3, y4, y5, y6, y7, y8, y9, y10, ⟨ya, yb, yc, yl⟩, ⟨za, zb, zc, zl⟩, ⟨wa, wb, wc, wl⟩)) mapT (h4.mono fun o ho => hs6.le _ _ ho) fun o hmp => ?_
      rw [mlay_none hln] at hmp
      exact ⟨rfl, ⟨Bx.sub_of h6'.sub h5, h.off, oa, n, c, ob, q, d, gb, (h1.sub hs6).upd_ne _ (fun e => h6 e.symm), h2, h3, by rw [if_pos rfl]; exact hmp, h5, h6, h7, h8⟩⟩
end Go.Rnd
namespace Go.Rnd
open Go.Vx Go.Vc Go.Proofs
theorem flat_int (l : List Int) : l.flatMap iE = l.map (Value.int .i64) := by
  induction l with
  | nil => rfl
  | cons x xs ih => rw [List.flatMap_cons, ih]; rfl
/-- The keys of these places. -/
def keysAt (got : List (Int × Msg)) (js : List Nat) : List Int := js.filterMap fun j => (got[j]?).map (·.1)
theorem keysAt_perm {got : List (Int × Msg)} {js : List Nat} (h : js.Perm (List.range got.length)) : (keysAt got js).Perm (got.map (·.1)) := by
  have h1 := h.filterMap fun j => (got[j]?).map (·.1)
  have h2 : (List.range got.length).filterMap (fun j => (got[j]?).map (·.1)) = got.map (·.1) := by
    have : ∀ l : List (Int × Msg), (List.range l.length).filterMap (fun j => (l[j]?).map (·.1)) = l.map (·.1) := by
      intro l
      induction l with
      | nil => rfl
      | cons x xs ih =>
        rw [List.length_cons, List.range_succ_eq_map, List.filterMap_cons]
        simp only [List.getElem?_cons_zero, Option.map_some, List.filterMap_map, Function.comp_def, List.getElem?_cons_succ, List.map_cons]
        rw [ih]
    exact this got
  rw [h2] at h1
  exact h1
theorem keysAt_snoc {got : List (Int × Msg)} {js : List Nat} {j : Nat} {x : Int × Msg} (hx : got[j]? = some x) : keysAt got (js ++ [j]) = keysAt got js ++ [x.1] := by
  unfold keysAt
  rw [List.filterMap_append]
  simp [hx]
theorem keysAt_len {got : List (Int × Msg)} (js : List Nat) : (keysAt got js).length ≤ js.length := List.length_filterMap_le _ _
/-- What is told: the answers, by rising keys. -/
structure GotL (got : List (Int × Msg)) (K : List Int) : Prop where
  perm : K.Perm (got.map (·.1))
  rise : K.Pairwise (· ≤ ·)
theorem got_own {F H : PHeap} {k : Nat} {asks : List Msg} {wait : List Int} {got : List (Int × Msg)} {tries : Int} (h : RdS F H k asks wait got tries) (hg : got.length ≤ 100000) :
    Triple Tryz.prog 86 #[.pointer (at0 k)] H fun v H' => ∃ b n c K, v = .slice b n c ∧ GotL got K ∧ RdL H' mE 13 b n (K.map fun i => (mlook got i).getD z0) ∧ Sub H H' ∧ Off H b := by
  obtain ⟨oa, n, c, ob, m, d, gb, h1, h2, h3, h4, h5, h6, h7, h8⟩ := h.row
  have r2 : ∀ {G : PHeap}, Sub H G → Reads G (fldA (at0 k) 2) [.map (some gb)] := fun hs => (h1.sub hs).readsAt 2 (fun j v hv => by
    match j, hv with
    | 0, hv => simpa using hv
    | j + 1, hv => simp at hv)
  refine gotR.vc (at0 k) H _ ⟨fun e => by simp [at0] at e, fun _ => ⟨neP k, neP k, some gb, r2 (Sub.refl _), map_range mapT h4 fun r o hr hit => ?_⟩⟩
  have hsr := Sub.upd o hr
  refine ⟨at0 r, rfl, fun t H' => match t with | [.slice b q kk] => ∃ js o, It H' r gb (Value.int .i64) vM got js ∧ H' r = some o ∧ Sub H H' ∧ OwnL H' 3 iE 1 b q kk (keysAt got js) ∧ Off (H.upd r o) b | _ => False, fun t H' => match H' r with | some (.mapIter _ _ seen _) => got.length - seen.size | _ => 0, ⟨[], o, hit, upd_eq .., hsr, Owns.nil _ _ 1, Off.none _⟩, ?_⟩
  rintro b q kk H1 ⟨js, o1, hit1, ho1, hs1, how1, hoff1⟩
  have hlen1 : (keysAt got js).length = q := (how1.rd (E := iE) (sz := 1) (by omega) iLen).len
  have hcnt := hit1.count
  have hkl := keysAt_len (got := got) js
  refine map_next hit1 (fun hall => .inl ⟨rfl, fun e => (by cases e), fun _ => ?_⟩) (fun j x o2 hx hj hit2 => .inr ⟨_, _, rfl, fun _ => ?_, fun e => by cases e⟩)
  · -- sorted
    have hperm := keysAt_perm (hit1.all hall)
    have how1' : Owns H1 3 1 b q kk ((keysAt got js).map (Value.int .i64)) := by rw [← flat_int]; exact how1
    refine (sort_ok sortI how1' (by omega)).mono ?_
    rintro _ H2 ⟨rfl, how2, hf2⟩
    have hoffH : Off H b := fun a ha => by
      have := hoff1 a ha
      by_cases e : a.block = r
      · rw [e]; exact hr
      · rwa [Vx.upd_ne _ _ e] at this
    have hs2 : Sub H H2 := hf2.sub hs1 hoffH
    have hK : GotL got ((keysAt got js).mergeSort fun x y => decide (x ≤ y)) := ⟨(List.mergeSort_perm _ _).trans hperm, by
      have := List.pairwise_mergeSort (le := fun x y : Int => decide (x ≤ y)) (fun a b c h1 h2 => by simp at *; omega) (fun a b => by simp; omega) (keysAt got js)
      exact this.imp fun h => by simpa using h⟩
    have hKl : ((keysAt got js).mergeSort fun x y => decide (x ≤ y)).length = q := by rw [List.length_mergeSort, hlen1]
    generalize ((keysAt got js).mergeSort fun x y => decide (x ≤ y)) = K at *
    rw [← flat_int] at how2
    have hrdK := Owns.rd (E := iE) (sz := 1) (by omega) iLen how2
    refine ⟨rfl, fun t H' => match t with | [.slice b' q' k', .int _ i] => 0 ≤ i ∧ i ≤ q ∧ Sub H2 H' ∧ OwnL H' 52 mE 13 b' q' k' ((K.take i.toNat).map fun i => (mlook got i).getD z0) ∧ Off H2 b' | _ => False, fun t _ => match t with | [_, .int _ i] => (q - i).toNat | _ => 0, ⟨by omega, by omega, Sub.refl _, Owns.nil _ _ 13, Off.none _⟩, ?_⟩
    rintro b3 q3 k3 i H3 ⟨i0, i1, hs3, how3, hoff3⟩
    obtain ⟨i, rfl⟩ : ∃ j : Nat, i = j := ⟨i.toNat, by omega⟩
    rw [Int.toNat_natCast] at how3
    have hl3 := (how3.rd (E := mE) (sz := 13) (by omega) mLen).len
    rw [List.length_map, List.length_take] at hl3
    have hrd3 := hrdK.mono hs3
    refine ⟨fun hi => ?_, fun hi => ?_⟩
    · have hi' : i < q := by simpa using hi
      obtain ⟨y, hy, hyr⟩ := hrd3.ex (i := (i : Int)) (by omega) (by omega)
      rw [Int.toNat_natCast] at hy
      refine ⟨hrd3.ob (by omega) (by omega), y, hyr, neP k, neP k, some gb, r2 (hs2.trans hs3), map_get mapT (h4.mono fun o ho => (hs2.trans hs3).le _ _ ho) ?_⟩
      rw [if_neg (by simp), getD_vM]
      have htk : (K.take (i + 1)).map (fun i => (mlook got i).getD z0) = (K.take i).map (fun i => (mlook got i).getD z0) ++ [(mlook got y).getD z0] := by rw [List.take_add_one, hy]; simp
      have hone := mOne ((mlook got y).getD z0)
      rw [wrapS (by omega) (by omega)]
      generalize hM : (mlook got y).getD z0 = M at *
      obtain ⟨y1, y2, y3, y4, y5, y6, y7, y8, y9, y10, ⟨ya, yb, yc, yl⟩, ⟨za, zb, zc, zl⟩, ⟨wa, wb, wc, wl⟩⟩ := M
      refine ⟨y1, y2, y3, y4, y5, y6, y7, y8, y9, y10, ya, yb, yc, za, zb, zc, wa, wb, wc, rfl, fun k4 hk4 => ?_⟩
      refine append_one tM hk4 (E := mE) (x := (y1, y2, y3, y4, y5, y6, y7, y8, y9, y10, ⟨ya, yb, yc, yl⟩, ⟨za, zb, zc, zl⟩, ⟨wa, wb, wc, wl⟩)) mLen how3 rfl hone (by simp [maxLen]; omega) (by omega) ?_
      intro b5 c5 H5 g5 hf5 hfr5 _
      refine ⟨b5, _, c5, rfl, ⟨by omega, by omega, hf5.sub hs3 hoff3, ?_, hfr5.off hs3 hoff3⟩, ⟨by simp only; omega⟩⟩
      rw [show ((i : Int) + 1).toNat = i + 1 by omega, htk]
      exact g5
    · have : ¬ i < q := by simpa using hi
      rw [List.take_of_length_le (by omega)] at how3
      exact ⟨b3, q3, k3, K, rfl, hK, how3.rd (E := mE) (sz := 13) (by omega) mLen, hs2.trans hs3, hoff3.sub hs2⟩
  · -- one more
    have hs2 : Sub H (H1.upd r o2) := Bx.sub_of hs1 hr
    refine map_entry_at hit2 hx ?_
    obtain ⟨key, y1, y2, y3, y4, y5, y6, y7, y8, y9, y10, ⟨ya, yb, yc, yl⟩, ⟨za, zb, zc, zl⟩, ⟨wa, wb, wc, wl⟩⟩ := x
    refine ⟨key, y1, y2, y3, y4, y5, y6, y7, y8, y9, y10, ya, yb, yc, za, zb, zc, wa, wb, wc, rfl, fun k4 hk4 => ?_⟩
    have hbr : ∀ a, b = some a → a.block ≠ r := fun a ha e => by
      have := hoff1 a ha
      rw [e, upd_eq] at this; cases this
    have how2 : OwnL (H1.upd r o2) 3 iE 1 b q kk (keysAt got js) := Owns.mono how1 fun a o ha hb => by rw [Vx.upd_ne _ _ (hbr a ha)]; exact hb
    have hcnt2 := hit2.count
    rw [List.length_append, List.length_singleton] at hcnt2
    refine append_one tI hk4 (E := iE) (x := key) iLen how2 rfl (iOne key) (by simp [maxLen]; omega) (by omega) ?_
    intro b5 c5 H5 g5 hf5 hfr5 _
    have hr5 : H5 r = some o2 := hf5 r o2 (upd_eq ..) fun a ha e => hbr a ha e.symm
    have hoffU : Off (H.upd r o2) b := fun a ha => by
      rw [Vx.upd_ne _ _ (hbr a ha)]
      have := hoff1 a ha
      rwa [Vx.upd_ne _ _ (hbr a ha)] at this
    have hsU : Sub (H.upd r o2) (H1.upd r o2) := ⟨fun q' o' hq => by
      by_cases e : q' = r
      · subst e; rw [upd_eq] at hq ⊢; exact hq
      · rw [Vx.upd_ne _ _ e] at hq ⊢; exact hs1.le _ _ hq⟩
    have hgbr : gb ≠ r := fun e => by
      obtain ⟨es, c', g1, _⟩ := h4.out
      rw [e, hr] at g1; cases g1
    have hit5 : It H5 r gb (Value.int .i64) vM got (js ++ [j]) := hit2.mono (fun o' ho' => by rw [upd_eq] at ho'; cases ho'; exact hr5) (fun o' ho' => hf5 gb o' ho' fun a ha e => by
      have h9 := hoffU a ha
      obtain ⟨es, c', g1, _⟩ := h4.out
      rw [Vx.upd_ne _ _ (hbr a ha), ← e, g1] at h9; cases h9)
    refine ⟨b5, _, c5, rfl, ⟨js ++ [j], o2, hit5, hr5, hf5.sub hs2 fun a ha => by have := hoffU a ha; rwa [Vx.upd_ne _ _ (hbr a ha)] at this, ?_, hfr5.off hsU hoffU⟩, ?_⟩
    · rw [keysAt_snoc hx]; exact g5
    · obtain ⟨es1, c1, sn1, e1, e2, e3, e4, e5⟩ := hit1.out
      obtain ⟨es2, c2, sn2, f1, f2, f3, f4, f5⟩ := hit5.out
      have hsz : ∀ {G : PHeap} {js : List Nat} {es : Array MapEntry} {sn : Array Nat}, es.toList.map (fun e => (e.key, e.val)) = got.map (fun x => (Value.int .i64 x.1, vM x.2)) → sn.toList = js.filterMap (fun j => (es.toList[j]?).map (·.born)) → (∀ j ∈ js, j < got.length) → sn.size = js.length := by
        intro G js es sn hen hsn hlt
        have hel : es.toList.length = got.length := by have := congrArg List.length hen; simpa using this
        have : sn.toList.length = js.length := by
          rw [hsn]
          clear hsn
          induction js with
          | nil => rfl
          | cons a bs ih =>
            have ha : a < es.toList.length := by rw [hel]; exact hlt a (by simp)
            rw [List.filterMap_cons, List.getElem?_eq_getElem ha]
            simp only [Option.map_some, List.length_cons]
            rw [ih fun j hj => hlt j (by simp [hj])]
        simpa using this
      have s1 := hsz (G := H1) e2 e5 hit1.lt
      have s2 := hsz (G := H5) f2 f5 hit5.lt
      rw [List.length_append, List.length_singleton] at s2
      refine ⟨?_⟩
      simp only [e4, f4]
      omega
end Go.Rnd
namespace Go.Vc
open Go.Vx Go Go.Proofs.Tryz
def sameS.cx : Cx := ⟨[], [(4, [5], [])], [], []⟩
def refAdd.cx : Cx := ⟨[], [(2, [5], [])], [], []⟩
def refLessS.cx : Cx := ⟨[], [(2, [5], [])], [], []⟩
theorem sameS.vc (a1 : Option Addr) (k2 k3 : Nat) (a4 : Option Addr) (k5 k6 : Nat) (H : PHeap) (Q : Value -> PHeap -> Prop)
 (h : (((k2 : Int) != (k5 : Int)) = true -> Q (.bool false) H) /\ (((k2 : Int) != (k5 : Int)) = false -> ∃ (R7 : Rl) (M8 : Mu), R7 [iw 0] H /\ ∀ (n9 : Int) (H10 : PHeap), R7 [iw n9] H10 ->
 (decide (n9 < (k2 : Int)) = true -> ∃ H11, Vx.Sub H11 H10 /\ Ob (a1 ≠ none /\ 0 ≤ n9 /\ n9 < (k2 : Int)) /\ ∃ s12, Reads H11 (elemA a1 n9 1) [.string s12] /\ Ob (a4 ≠ none /\ 0 ≤ n9 /\ n9 < (k5 : Int)) /\ ∃ s13,
 Reads H11 (elemA a4 n9 1) [.string s13] /\ ((!eqS s12 s13) = true -> Q (.bool false) H10) /\ ((!eqS s12 s13) = false -> R7 [iw (IntKind.i64.wrap (n9 + 1))] H10 /\
 Less (M8 [iw (IntKind.i64.wrap (n9 + 1))] H10) (M8 [iw n9] H10))) /\ (decide (n9 < (k2 : Int)) = false -> Q (.bool true) H10))) : Triple prog 66 ([sw a1 k2 k3, sw a4 k5 k6]).toArray H Q :=
 Triple.of_vc sameS.cx (by kernel_rfl) h
theorem refAdd.vc (a1 : Option Addr) (k2 k3 : Nat) (s4 : ByteArray) (H : PHeap) (Q : Value -> PHeap -> Prop)
 (h : ∃ (R5 : Rl) (M6 : Mu), R5 [iw 0] H /\ ∀ (n7 : Int) (H8 : PHeap), R5 [iw n7] H8 -> (decide (n7 < (k2 : Int)) = true -> Ob (a1 ≠ none /\ 0 ≤ n7 /\ n7 < (k2 : Int)) /\ ∃ s9, Reads H8 (elemA a1 n7 1) [.string s9] /\
 Triple prog 116 #[.string s9, .string s4] H8 fun v10 H11 => ∃ b12, v10 = .bool b12 /\ (b12 = true -> R5 [iw (IntKind.i64.wrap (n7 + 1))] H11 /\ Less (M6 [iw (IntKind.i64.wrap (n7 + 1))] H11) (M6 [iw n7] H8)) /\
 (b12 = false -> (decide (n7 < (k2 : Int)) = true -> Ob (a1 ≠ none /\ 0 ≤ n7 /\ n7 < (k2 : Int)) /\ ∃ s13, Reads H11 (elemA a1 n7 1) [.string s13] /\ (eqS s13 s4 = true -> Q (sw a1 k2 k3) H11) /\ (eqS s13 s4 = false ->
 ∀ (k14 : Nat), H11 k14 = none -> Ob ((0 : Int) ≤ 0 /\ 0 ≤ n7 /\ n7 ≤ (k3 : Int)) /\ EvV prog (Builtin.append_ #[49, 49] 49 #[sw (at0 k14) 0 0, sw (slA a1 0 k3 1) (n7.toNat - Int.toNat 0) (k3 - Int.toNat 0)])
 (H11.upd k14 (Obj.cells #[] 9)) fun v15 H16 => ∃ a17 k18 k19, v15 = sw a17 k18 k19 /\ ∀ (k20 : Nat), H16 k20 = none -> EvV prog (Builtin.append_ #[49, 49] 49 #[sw a17 k18 k19, sw (at0 k20) 1 1])
 (H16.upd k20 (Obj.cells #[.string s4] 9)) fun v21 H22 => ∃ a23 k24 k25, v21 = sw a23 k24 k25 /\ Ob (0 ≤ n7 /\ n7 ≤ (k2 : Int) /\ (k2 : Int) ≤ (k3 : Int)) /\ EvV prog (Builtin.append_ #[49, 49] 49
 #[sw a23 k24 k25, sw (slA a1 n7 k3 1) ((k2 : Int).toNat - n7.toNat) (k3 - n7.toNat)]) H22 fun v26 H27 => ∃ a28 k29 k30, v26 = sw a28 k29 k30 /\ Q (sw a28 k29 k30) H27)) /\ (decide (n7 < (k2 : Int)) = !true ->
 ∀ (k31 : Nat), H11 k31 = none -> Ob ((0 : Int) ≤ 0 /\ 0 ≤ n7 /\ n7 ≤ (k3 : Int)) /\ EvV prog (Builtin.append_ #[49, 49] 49 #[sw (at0 k31) 0 0, sw (slA a1 0 k3 1) (n7.toNat - Int.toNat 0) (k3 - Int.toNat 0)])
 (H11.upd k31 (Obj.cells #[] 9)) fun v32 H33 => ∃ a34 k35 k36, v32 = sw a34 k35 k36 /\ ∀ (k37 : Nat), H33 k37 = none -> EvV prog (Builtin.append_ #[49, 49] 49 #[sw a34 k35 k36, sw (at0 k37) 1 1])
 (H33.upd k37 (Obj.cells #[.string s4] 9)) fun v38 H39 => ∃ a40 k41 k42, v38 = sw a40 k41 k42 /\ Ob (0 ≤ n7 /\ n7 ≤ (k2 : Int) /\ (k2 : Int) ≤ (k3 : Int)) /\ EvV prog
 (Builtin.append_ #[49, 49] 49 #[sw a40 k41 k42, sw (slA a1 n7 k3 1) ((k2 : Int).toNat - n7.toNat) (k3 - n7.toNat)]) H39 fun v43 H44 => ∃ a45 k46 k47, v43 = sw a45 k46 k47 /\ Q (sw a45 k46 k47) H44))) /\
 (decide (n7 < (k2 : Int)) = !true -> (decide (n7 < (k2 : Int)) = true -> Ob (a1 ≠ none /\ 0 ≤ n7 /\ n7 < (k2 : Int)) /\ ∃ s48, Reads H8 (elemA a1 n7 1) [.string s48] /\ (eqS s48 s4 = true -> Q (sw a1 k2 k3) H8) /\
 (eqS s48 s4 = false -> ∀ (k49 : Nat), H8 k49 = none -> Ob ((0 : Int) ≤ 0 /\ 0 ≤ n7 /\ n7 ≤ (k3 : Int)) /\ EvV prog
 (Builtin.append_ #[49, 49] 49 #[sw (at0 k49) 0 0, sw (slA a1 0 k3 1) (n7.toNat - Int.toNat 0) (k3 - Int.toNat 0)]) (H8.upd k49 (Obj.cells #[] 9)) fun v50 H51 => ∃ a52 k53 k54, v50 = sw a52 k53 k54 /\ ∀ (k55 : Nat),
 H51 k55 = none -> EvV prog (Builtin.append_ #[49, 49] 49 #[sw a52 k53 k54, sw (at0 k55) 1 1]) (H51.upd k55 (Obj.cells #[.string s4] 9)) fun v56 H57 => ∃ a58 k59 k60, v56 = sw a58 k59 k60 /\
 Ob (0 ≤ n7 /\ n7 ≤ (k2 : Int) /\ (k2 : Int) ≤ (k3 : Int)) /\ EvV prog (Builtin.append_ #[49, 49] 49 #[sw a58 k59 k60, sw (slA a1 n7 k3 1) ((k2 : Int).toNat - n7.toNat) (k3 - n7.toNat)]) H57
 fun v61 H62 => ∃ a63 k64 k65, v61 = sw a63 k64 k65 /\ Q (sw a63 k64 k65) H62)) /\ (decide (n7 < (k2 : Int)) = !true -> ∀ (k66 : Nat), H8 k66 = none -> Ob ((0 : Int) ≤ 0 /\ 0 ≤ n7 /\ n7 ≤ (k3 : Int)) /\
 EvV prog (Builtin.append_ #[49, 49] 49 #[sw (at0 k66) 0 0, sw (slA a1 0 k3 1) (n7.toNat - Int.toNat 0) (k3 - Int.toNat 0)]) (H8.upd k66 (Obj.cells #[] 9)) fun v67 H68 => ∃ a69 k70 k71, v67 = sw a69 k70 k71 /\
 ∀ (k72 : Nat), H68 k72 = none -> EvV prog (Builtin.append_ #[49, 49] 49 #[sw a69 k70 k71, sw (at0 k72) 1 1]) (H68.upd k72 (Obj.cells #[.string s4] 9)) fun v73 H74 => ∃ a75 k76 k77, v73 = sw a75 k76 k77 /\
 Ob (0 ≤ n7 /\ n7 ≤ (k2 : Int) /\ (k2 : Int) ≤ (k3 : Int)) /\ EvV prog (Builtin.append_ #[49, 49] 49 #[sw a75 k76 k77, sw (slA a1 n7 k3 1) ((k2 : Int).toNat - n7.toNat) (k3 - n7.toNat)]) H74
 fun v78 H79 => ∃ a80 k81 k82, v78 = sw a80 k81 k82 /\ Q (sw a80 k81 k82) H79))) : Triple prog 117 ([sw a1 k2 k3, .string s4]).toArray H Q := Triple.of_vc refAdd.cx (by kernel_rfl) h
theorem refLessS.vc (s1 s2 : ByteArray) (H : PHeap) (Q : Value -> PHeap -> Prop)
 (h : ∃ (R3 : Rl) (M4 : Mu), R3 [iw 0] H /\ ∀ (n5 : Int) (H6 : PHeap), R3 [iw n5] H6 -> ((bif decide (n5 < (s1.size : Int)) then decide (n5 < (s2.size : Int)) else false) = true -> ∃ H7, Vx.Sub H7 H6 /\
 Ob (0 ≤ n5 /\ n5 < (s1.size : Int)) /\ Ob (0 ≤ n5 /\ n5 < (s2.size : Int)) /\ ((byteAt s1 n5 != byteAt s2 n5) = true ->
 ∃ H8, Vx.Sub H8 H6 /\ Ob (0 ≤ n5 /\ n5 < (s1.size : Int)) /\ Ob (0 ≤ n5 /\ n5 < (s2.size : Int)) /\ Q (.bool (decide (byteAt s1 n5 < byteAt s2 n5))) H6) /\ ((byteAt s1 n5 != byteAt s2 n5) = false ->
 R3 [iw (IntKind.i64.wrap (n5 + 1))] H6 /\ Less (M4 [iw (IntKind.i64.wrap (n5 + 1))] H6) (M4 [iw n5] H6))) /\
 ((bif decide (n5 < (s1.size : Int)) then decide (n5 < (s2.size : Int)) else false) = false -> Q (.bool (decide ((s1.size : Int) < (s2.size : Int)))) H6)) : Triple prog 116 ([.string s1, .string s2]).toArray H Q :=
 Triple.of_vc refLessS.cx (by kernel_rfl) h
end Go.Vc
namespace Go.Rnd
open Go.Vx Go.Vc Go.Proofs
theorem part3 {H : PHeap} {k : Nat} {a b c : Value} {n m : Int} {t : TypeId} (h : Bx H k t [a, b, c, .int .i64 n]) : Writes H (H.upd k (.cells [a, b, c, .int .i64 m].toArray t (0, 0))) (fldA (at0 k) 3) [.int .i64 m] := by
  have := (h.writes [a, b, c, .int .i64 m] rfl).part (A := [a, b, c]) (l2 := [.int .i64 m]) (B := []) (old := [.int .i64 n]) h.reads rfl
  exact this
/-- Who has not answered is asked again. -/
def again (asks : List Msg) (got : List (Int × Msg)) : List Msg := asks.filter fun x => !(mlook got (to_ x)).isSome
theorem tick_ok {F H : PHeap} {k : Nat} {asks : List Msg} {wait : List Int} {got : List (Int × Msg)} {tries : Int} (h : RdS F H k asks wait got tries) :
    Triple Tryz.prog 34 #[.pointer (at0 k)] H fun v H' =>
      (tries = 0 ∧ v = .tuple #[.slice none 0 0, .bool true] ∧ RdS F H' k asks wait got tries ∧ Sub H H') ∨
      (tries ≠ 0 ∧ RdS F H' k asks wait got (IntKind.i64.wrap (tries - 1)) ∧ ∃ b m c, v = .tuple #[.slice b m c, .bool false] ∧ RdL H' mE 13 b m (again asks got)) := by
  refine tickR.vc (at0 k) H _ fun k2 hk2 => ?_
  have hs2 := Sub.upd (.cells #[.pointer (at0 k)] 66) hk2
  have b2 : Bx (H.upd k2 (.cells #[.pointer (at0 k)] 66)) k2 66 [.pointer (at0 k)] := Bx.new H k2 _ [.pointer (at0 k)]
  have hk2k : k2 ≠ k := fun e => by
    obtain ⟨oa, n, c, ob, m, d, gb, h1, _⟩ := h.row
    unfold Bx at h1
    rw [← e, hk2] at h1; cases h1
  have hFk2 : F k2 = none := by
    cases e : F k2 with
    | none => rfl
    | some o => have := h.sub.le _ _ e; rw [hk2] at this; cases this
  generalize H.upd k2 (.cells #[.pointer (at0 k)] 66) = H2 at *
  have h' := h.mono hs2
  obtain ⟨oa, n, c, ob, m, d, gb, h1, h2, h3, h4, h5, h6, h7, h8⟩ := h'.row
  have r3 : Reads H2 (fldA (at0 k) 3) [.int .i64 tries] := h1.readsAt 3 (fun j v hv => by
    match j, hv with
    | 0, hv => simpa using hv
    | j + 1, hv => simp at hv)
  refine ⟨at0 k, b2.reads, fun _ => ⟨at0 k, b2.reads, neP k, neP k, tries, r3, fun ht => ?_, fun ht => ?_⟩, fun e => by simp [at0] at e⟩
  · exact .inl ⟨by simpa using ht, rfl, h', hs2⟩
  · have ht' : tries ≠ 0 := by simpa using ht
    refine ⟨at0 k, b2.reads, neP k, neP k, tries, r3, neP k, neP k, _, part3 h1 (m := IntKind.i64.wrap (tries - 1)), ?_⟩
    have b3 := b2.upd_ne (.cells [.slice oa n c, .slice ob m d, .map (some gb), .int .i64 (IntKind.i64.wrap (tries - 1))].toArray 119 (0, 0)) hk2k
    have hR : RdS F (H2.upd k (.cells [.slice oa n c, .slice ob m d, .map (some gb), .int .i64 (IntKind.i64.wrap (tries - 1))].toArray 119 (0, 0))) k asks wait got (IntKind.i64.wrap (tries - 1)) :=
      ⟨Bx.sub_of h'.sub h.off, h.off, oa, n, c, ob, m, d, gb, Bx.new _ k _ _, h2, h3, h4.mono fun o ho => by rw [Vx.upd_ne _ _ h6]; exact ho, h5, h6, h7, h8⟩
    generalize H2.upd k (.cells [.slice oa n c, .slice ob m d, .map (some gb), .int .i64 (IntKind.i64.wrap (tries - 1))].toArray 119 (0, 0)) = H3 at *
    refine ⟨at0 k, b3.reads, (asks_ok hR).mono ?_⟩
    rintro _ H4 ⟨b4, n4, c4, rfl, g4, s4, o4⟩
    have hn4 : n4 ≤ 100000 := by
      have e1 := (g4.rd (E := mE) (sz := 13) (by omega) mLen).len
      have e2 := h2.len
      omega
    refine ⟨b4, n4, c4, rfl, (delFunc_ok (F := H3) (p := fun x => (mlook got (to_ x)).isSome) s4 o4 g4 hn4 fun H5 x Q hs hQ => ?_).mono ?_⟩
    · refine CallY.fn (by kernel_rfl) ?_
      obtain ⟨oa', n', c', ob', m', d', gb', j1, j2, j3, j4, j5, j6, j7, j8⟩ := (hR.mono hs).row
      obtain ⟨y1, y2, y3, y4, y5, y6, y7, y8, y9, y10, ⟨ya, yb, yc, yl⟩, ⟨za, zb, zc, zl⟩, ⟨wa, wb, wc, wl⟩⟩ := x
      refine tickR1.vc y1 y2 y3 y4 y5 y6 y7 y8 y9 y10 ya yb yc za zb zc wa wb wc (at0 k2) H5 Q ⟨H5, Sub.refl _, at0 k, (b3.sub hs).reads, neP k, neP k, some gb', j1.readsAt 2 (fun j v hv => ?_), map_get mapT j4 ?_⟩
      · match j, hv with
        | 0, hv => simpa using hv
        | j + 1, hv => simp at hv
      · rw [if_pos rfl, getD_vM]
        obtain ⟨n31, n32, n33, n34, s35, n36, n37, n38, n39, n40, ⟨a41, k42, k43, ll1⟩, ⟨a44, k45, k46, ll2⟩, ⟨a47, k48, k49, ll3⟩⟩ := (mlook got y3).getD z0
        refine ⟨n31, n32, n33, n34, s35, n36, n37, n38, n39, n40, a41, k42, k43, a44, k45, k46, a47, k48, k49, _, rfl, fun k5 hk5 => ?_⟩
        have hs5 := Sub.upd (.cells (mE z0).toArray 52 (0, 0)) hk5
        have b5 : Bx (H5.upd k5 (.cells (mE z0).toArray 52 (0, 0))) k5 52 (mE z0) := Bx.new H5 k5 _ _
        exact ⟨hs5, _, b5.writes [.int .i64 n31, .int .i64 n32, .int .i64 n33, .int .i64 n34, .string s35, .int .i64 n36, .int .i64 n37, .int .i64 n38, .int .i64 n39, .int .i64 n40, .slice a41 k42 k43, .slice a44 k45 k46, .slice a47 k48 k49] rfl, hQ _ (Bx.sub_of hs5 hk5)⟩
    · rintro _ H6 ⟨b6, m6, k6, rfl, g6, s6⟩
      exact ⟨b6, m6, k6, rfl, .inr ⟨ht', hR.mono s6, b6, m6, k6, rfl, g6⟩⟩
abbrev bE : Int → List Value := intE .u8
/-- What a message's slices hold is read. -/
structure OkM (H : PHeap) (m : Msg) : Prop where
  who : RdL H iE 1 m.2.2.2.2.2.2.2.2.2.2.1.oa m.2.2.2.2.2.2.2.2.2.2.1.n m.2.2.2.2.2.2.2.2.2.2.1.l
  names : RdL H strE 1 m.2.2.2.2.2.2.2.2.2.2.2.1.oa m.2.2.2.2.2.2.2.2.2.2.2.1.n m.2.2.2.2.2.2.2.2.2.2.2.1.l
  data : RdL H bE 1 m.2.2.2.2.2.2.2.2.2.2.2.2.oa m.2.2.2.2.2.2.2.2.2.2.2.2.n m.2.2.2.2.2.2.2.2.2.2.2.2.l
  small : m.2.2.2.2.2.2.2.2.2.2.1.n ≤ 100000 ∧ m.2.2.2.2.2.2.2.2.2.2.2.1.n ≤ 100000 ∧ m.2.2.2.2.2.2.2.2.2.2.2.2.n ≤ 100000
theorem OkM.mono {H H' : PHeap} {m : Msg} (h : OkM H m) (hs : Sub H H') : OkM H' m := ⟨h.who.mono hs, h.names.mono hs, h.data.mono hs, h.small⟩
theorem sameInts_ok {H : PHeap} {oa ob : Option Addr} {n c c2 : Nat} {l : List Int} (h1 : RdL H iE 1 oa n l) (h2 : RdL H iE 1 ob n l) (hn : n ≤ 100000) :
    Triple Tryz.prog 65 #[.slice oa n c, .slice ob n c2] H fun v H' => v = .bool true ∧ H' = H := by
  refine sameInts.vc oa n c ob n c2 H _ ⟨fun h => by simp at h, fun _ => ⟨fun l H' => match l with | [.int _ i] => 0 ≤ i ∧ i ≤ n ∧ H' = H | _ => False, fun l _ => match l with | [.int _ i] => (n - i).toNat | _ => 0, ⟨by omega, by omega, rfl⟩, ?_⟩⟩
  rintro i H1 ⟨i0, i1, rfl⟩
  refine ⟨fun hi => ?_, fun _ => ⟨rfl, rfl⟩⟩
  have hi' : i < n := by simpa using hi
  obtain ⟨x, hx, hxr⟩ := h1.ex i0 hi'
  refine ⟨_, Sub.refl _, h1.ob i0 hi', x, hxr, h2.ob i0 hi', x, h2.at i0 hx, fun h => by simp at h, fun _ => ?_⟩
  rw [wrapS i0 (by omega)]
  exact ⟨⟨by omega, by omega, rfl⟩, ⟨by simp only; omega⟩⟩
theorem sameB_ok {H : PHeap} {oa ob : Option Addr} {n c c2 : Nat} {l : List Int} (h1 : RdL H bE 1 oa n l) (h2 : RdL H bE 1 ob n l) (hn : n ≤ 100000) :
    Triple Tryz.prog 67 #[.slice oa n c, .slice ob n c2] H fun v H' => v = .bool true ∧ H' = H := by
  refine sameB.vc oa n c ob n c2 H _ ⟨fun h => by simp at h, fun _ => ⟨fun l H' => match l with | [.int _ i] => 0 ≤ i ∧ i ≤ n ∧ H' = H | _ => False, fun l _ => match l with | [.int _ i] => (n - i).toNat | _ => 0, ⟨by omega, by omega, rfl⟩, ?_⟩⟩
  rintro i H1 ⟨i0, i1, rfl⟩
  refine ⟨fun hi => ?_, fun _ => ⟨rfl, rfl⟩⟩
  have hi' : i < n := by simpa using hi
  obtain ⟨x, hx, hxr⟩ := h1.ex i0 hi'
  refine ⟨_, Sub.refl _, h1.ob i0 hi', x, hxr, h2.ob i0 hi', x, h2.at i0 hx, fun h => by simp at h, fun _ => ?_⟩
  rw [wrapS i0 (by omega)]
  exact ⟨⟨by omega, by omega, rfl⟩, ⟨by simp only; omega⟩⟩
theorem sameS_ok {H : PHeap} {oa ob : Option Addr} {n c c2 : Nat} {l : List ByteArray} (h1 : RdL H strE 1 oa n l) (h2 : RdL H strE 1 ob n l) (hn : n ≤ 100000) :
    Triple Tryz.prog 66 #[.slice oa n c, .slice ob n c2] H fun v H' => v = .bool true ∧ H' = H := by
  refine sameS.vc oa n c ob n c2 H _ ⟨fun h => by simp at h, fun _ => ⟨fun l H' => match l with | [.int _ i] => 0 ≤ i ∧ i ≤ n ∧ H' = H | _ => False, fun l _ => match l with | [.int _ i] => (n - i).toNat | _ => 0, ⟨by omega, by omega, rfl⟩, ?_⟩⟩
  rintro i H1 ⟨i0, i1, rfl⟩
  refine ⟨fun hi => ?_, fun _ => ⟨rfl, rfl⟩⟩
  have hi' : i < n := by simpa using hi
  obtain ⟨x, hx, hxr⟩ := h1.ex i0 hi'
  refine ⟨_, Sub.refl _, h1.ob i0 hi', x, hxr, h2.ob i0 hi', x, h2.at i0 hx, fun h => ?_, fun _ => ?_⟩
  · have : eqS x x = true := eqS_iff.2 rfl
    rw [this] at h; simp at h
  · rw [wrapS i0 (by omega)]
    exact ⟨⟨by omega, by omega, rfl⟩, ⟨by simp only; omega⟩⟩
end Go.Rnd
