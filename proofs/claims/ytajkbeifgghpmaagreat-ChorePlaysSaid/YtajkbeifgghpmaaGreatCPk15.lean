/- What is to be shown of each function, in its normal form.  · The document's chore: what lies in it; it is over, it agrees, what it takes, a round begins. -/
import Derived.Test.YtajkbeifgghpmaaGreatProg
import Derived.Test.YtajkbeifgghpmaaGreatCPk14
set_option linter.unusedVariables false
set_option maxRecDepth 100000
namespace Go.Vc
open Go.Vx Go Go.Proofs.Tryz
def rcStart.cx : Cx := ⟨[13], [], [], []⟩
def rcTick.cx : Cx := ⟨[], [], [], []⟩
def rcTake.cx : Cx := ⟨[5, 8], [], [], []⟩
def rcRound.cx : Cx := ⟨[], [(4, [11, 12], [7])], [], []⟩
def rcAgree.cx : Cx := ⟨[9], [], [], []⟩
def rcAgrees.cx : Cx := ⟨[], [], [], []⟩
def rcAgreed.cx : Cx := ⟨[], [], [], []⟩
def rcJudge.cx : Cx := ⟨[5], [], [], []⟩
def rcOver.cx : Cx := ⟨[], [], [], []⟩
def rcTakes.cx : Cx := ⟨[], [], [], []⟩
def rcNamed.cx : Cx := ⟨[], [(6, [4, 5], []), (14, [7], [])], [], []⟩
def rcMend.cx : Cx := ⟨[7], [], [], []⟩
def rcName.cx : Cx := ⟨[], [], [], []⟩
theorem rcStart.vc (n1 n2 n3 n4 n5 n6 n7 n8 : Int) (s9 : ByteArray) (n10 : Int) (H : PHeap) (Q : Value -> PHeap -> Prop)
 (h : ∀ (k11 : Nat), H k11 = none -> Triple prog 16 #[.agg #[iw n1, iw n2, iw n3, iw n4, iw n5, iw n6]] (H.upd k11 (Obj.cells #[iw n1, iw n2, iw n3, iw n4, iw n5, iw n6, iw n7,
 iw n8, .string s9, iw n10, iw 0, iw 0, iw 0, iw 0, iw 0, iw 0, iw 0, iw 0, .string ({ data := #[] } : ByteArray), .bool false, .bool false,
 iw 0, iw 0, sw none 0 0, sw none 0 0, sw none 0 0, iw 0, .bool false, .bool false, .bool false, iw 0, iw 0, iw 0, sw none 0 0, sw none 0 0, sw none 0 0, sw none 0 0,
 sw none 0 0, sw none 0 0, iw 0, iw 0, iw 0, iw 0, iw 0, .string ({ data := #[] } : ByteArray), iw 0, iw 0, iw 0, iw 0, iw 0, sw none 0 0,
 sw none 0 0, sw none 0 0, sw none 0 0, .string ({ data := #[] } : ByteArray), sw none 0 0, sw none 0 0, sw none 0 0, sw none 0 0] 57)) fun v12 H13 => ∃ b14, v12 = .bool b14 /\ ((!b14) = false ->
 (decide (n8 < 1) = false -> (decide (n8 > 3) = false -> (decide (n8 > 1) = true -> Triple prog 26 #[.string s9] H13 fun v15 H16 => ∃ b17, v15 = .bool b17 /\
 ((!b17) = true -> Q (.tuple #[.pointer (at0 k11), sw none 0 0]) H16) /\ ((!b17) = false -> ((n8 == 1) = true -> ∃ H18, Vx.Sub H18 H16 /\ Triple prog 28 #[Value.agg #[iw n1, iw n2, iw n3, iw n4, iw n5, iw n6]]
 H16 fun v19 H20 => ∃ a21 k22 k23, v19 = sw a21 k22 k23 /\ Vx.Sub H18 H20 /\ Triple prog 28 #[Value.agg #[iw n1, iw n2, iw n3, iw n4, iw n5, iw n6]] H20 fun v24 H25 => ∃ a26 k27 k28, v24 = sw a26 k27 k28 /\
 Triple prog 27 #[.pointer (at0 k11), iw 1, Value.agg #[iw 6, iw 0, iw 0, iw 0, .string ({ data := #[] } : ByteArray), iw 0, iw 0, iw 0, iw 0, iw 0, sw none 0 0, sw none 0 0, sw none 0 0],
 sw a21 k22 k23, sw a26 k27 k28] H25 fun v29 H30 => ∃ a31 k32 k33, v29 = sw a31 k32 k33 /\ Q (.tuple #[.pointer (at0 k11), sw a31 k32 k33]) H30) /\ ((n8 == 1) = false -> ((n8 == 2) = true ->
 Triple prog 29 #[.pointer (at0 k11), .string s9, .bool true, iw 4] H16 fun v34 H35 => ∃ a36 k37 k38, v34 = sw a36 k37 k38 /\ Q (.tuple #[.pointer (at0 k11), sw a36 k37 k38]) H35) /\ ((n8 == 2) = false ->
 Triple prog 29 #[.pointer (at0 k11), .string s9, .bool true, iw 6] H16 fun v39 H40 => ∃ a41 k42 k43, v39 = sw a41 k42 k43 /\ Q (.tuple #[.pointer (at0 k11), sw a41 k42 k43]) H40)))) /\ (decide (n8 > 1) = !true ->
 ((n8 == 1) = true -> ∃ H44, Vx.Sub H44 H13 /\ Triple prog 28 #[Value.agg #[iw n1, iw n2, iw n3, iw n4, iw n5, iw n6]] H13 fun v45 H46 => ∃ a47 k48 k49, v45 = sw a47 k48 k49 /\ Vx.Sub H44 H46 /\ Triple prog 28
 #[Value.agg #[iw n1, iw n2, iw n3, iw n4, iw n5, iw n6]] H46 fun v50 H51 => ∃ a52 k53 k54, v50 = sw a52 k53 k54 /\ Triple prog 27 #[.pointer (at0 k11), iw 1, Value.agg
 #[iw 6, iw 0, iw 0, iw 0, .string ({ data := #[] } : ByteArray), iw 0, iw 0, iw 0, iw 0, iw 0, sw none 0 0, sw none 0 0, sw none 0 0], sw a47 k48 k49, sw a52 k53 k54] H51 fun v55 H56 =>
 ∃ a57 k58 k59, v55 = sw a57 k58 k59 /\ Q (.tuple #[.pointer (at0 k11), sw a57 k58 k59]) H56) /\ ((n8 == 1) = false -> ((n8 == 2) = true ->
 Triple prog 29 #[.pointer (at0 k11), .string s9, .bool true, iw 4] H13 fun v60 H61 => ∃ a62 k63 k64, v60 = sw a62 k63 k64 /\ Q (.tuple #[.pointer (at0 k11), sw a62 k63 k64]) H61) /\ ((n8 == 2) = false ->
 Triple prog 29 #[.pointer (at0 k11), .string s9, .bool true, iw 6] H13 fun v65 H66 => ∃ a67 k68 k69, v65 = sw a67 k68 k69 /\ Q (.tuple #[.pointer (at0 k11), sw a67 k68 k69]) H66)))) /\
 (decide (n8 > 3) = !false -> Q (.tuple #[.pointer (at0 k11), sw none 0 0]) H13)) /\ (decide (n8 < 1) = !false -> Q (.tuple #[.pointer (at0 k11), sw none 0 0]) H13)) /\
 ((!b14) = !false -> Q (.tuple #[.pointer (at0 k11), sw none 0 0]) H13)) : Triple prog 8 ([.agg #[iw n1, iw n2, iw n3, iw n4, iw n5, iw n6], iw n7, .agg #[iw n8, .string s9, iw n10]]).toArray H Q :=
 Triple.of_vc rcStart.cx (by kernel_rfl) h
theorem rcTick.vc (a1 : Option Addr) (H : PHeap) (Q : Value -> PHeap -> Prop)
 (h : Ob (a1 ≠ none) /\ Ob (a1 ≠ none) /\ ∃ n2, Reads H (fldA a1 10) [iw n2] /\ ((n2 == 0) = true -> Q (sw none 0 0) H) /\ ((n2 == 0) = false -> Triple prog 35 #[.pointer a1] H fun v3 H4 => ∃ b5, v3 = .bool b5 /\
 (b5 = true -> Ob (a1 ≠ none) /\ Ob (a1 ≠ none) /\ ∃ n6 n7 n8 n9 n10 n11 n12 s13 b14 b15 n16 n17 a18 k19 k20 a21 k22 k23 a24 k25 k26 n27 b28 b29 b30 n31 n32 n33 a34 k35 k36 a37 k38 k39 a40 k41 k42, Reads H4 (fldA a1 11)
 [iw n6, iw n7, iw n8, iw n9, iw n10, iw n11, iw n12, .string s13, .bool b14, .bool b15, iw n16, iw n17, sw a18 k19 k20, sw a21 k22 k23, sw a24 k25 k26, iw n27, .bool b28, .bool b29, .bool b30, iw n31,
 iw n32, iw n33, sw a34 k35 k36, sw a37 k38 k39, sw a40 k41 k42] /\ Triple prog 36 #[Value.agg #[iw n6, iw n7, iw n8, iw n9, iw n10, iw n11, iw n12, .string s13, .bool b14, .bool b15, iw n16, iw n17, sw a18 k19 k20,
 sw a21 k22 k23, sw a24 k25 k26, iw n27, .bool b28, .bool b29, .bool b30, iw n31, iw n32, iw n33, sw a34 k35 k36, sw a37 k38 k39, sw a40 k41 k42]] H4 fun v43 H44 =>
 ∃ n45 n46 n47 n48 n49 n50 n51 s52 b53 b54 n55 n56 a57 k58 k59 a60 k61 k62 a63 k64 k65 n66 b67 b68 b69 n70 n71 n72 a73 k74 k75 a76 k77 k78 a79 k80 k81 a82 k83 k84, v43 = Value.tuple #[Value.agg
 #[iw n45, iw n46, iw n47, iw n48, iw n49, iw n50, iw n51, .string s52, .bool b53, .bool b54, iw n55, iw n56, sw a57 k58 k59, sw a60 k61 k62, sw a63 k64 k65, iw n66, .bool b67,
 .bool b68, .bool b69, iw n70, iw n71, iw n72, sw a73 k74 k75, sw a76 k77 k78, sw a79 k80 k81], sw a82 k83 k84] /\ Triple prog 37 #[.pointer a1, Value.agg #[iw n45, iw n46, iw n47, iw n48, iw n49,
 iw n50, iw n51, .string s52, .bool b53, .bool b54, iw n55, iw n56, sw a57 k58 k59, sw a60 k61 k62, sw a63 k64 k65, iw n66, .bool b67, .bool b68, .bool b69, iw n70, iw n71, iw n72, sw a73 k74 k75,
 sw a76 k77 k78, sw a79 k80 k81], sw a82 k83 k84] H44 fun v85 H86 => ∃ a87 k88 k89, v85 = sw a87 k88 k89 /\ Q (sw a87 k88 k89) H86) /\ (b5 = false -> Triple prog 38 #[.pointer a1] H4 fun v90 H91 => ∃ a92 k93 k94 b95,
 v90 = .tuple #[sw a92 k93 k94, .bool b95] /\ (b95 = true -> Q (sw a92 k93 k94) H91) /\ (b95 = false -> Ob (a1 ≠ none) /\ Ob (a1 ≠ none) /\ ∃ a96 k97 k98 a99 k100 k101 a102 k103 k104 n105,
 Reads H91 (fldA a1 36) [sw a96 k97 k98, sw a99 k100 k101, sw a102 k103 k104, iw n105] /\ Triple prog 39 #[.agg #[sw a96 k97 k98, sw a99 k100 k101, sw a102 k103 k104, iw n105]] H91 fun v106 H107 =>
 ∃ a108 k109 k110 a111 k112 k113 a114 k115 k116 n117 a118 k119 k120 b121, v106 = Value.tuple #[.agg #[sw a108 k109 k110, sw a111 k112 k113, sw a114 k115 k116, iw n117], sw a118 k119 k120, .bool b121] /\
 Ob (a1 ≠ none) /\ Ob (a1 ≠ none) /\ ∃ H122, Writes H107 H122 (fldA a1 36) [sw a108 k109 k110, sw a111 k112 k113, sw a114 k115 k116, iw n117] /\ (b121 = true -> Triple prog 40 #[.pointer a1] H122 fun v123 H124 =>
 ∃ a125 k126 k127, v123 = sw a125 k126 k127 /\ Q (sw a125 k126 k127) H124) /\ (b121 = false -> Q (sw a118 k119 k120) H122))))) : Triple prog 13 ([.pointer a1]).toArray H Q := Triple.of_vc rcTick.cx (by kernel_rfl) h
theorem rcTake.vc (a1 : Option Addr) (n2 n3 n4 n5 : Int) (s6 : ByteArray) (n7 n8 n9 n10 n11 : Int) (a12 : Option Addr) (k13 k14 : Nat) (a15 : Option Addr) (k16 k17 : Nat) (a18 : Option Addr) (k19 k20 : Nat) (H : PHeap) (Q : Value -> PHeap -> Prop)
 (h : Ob (a1 ≠ none) /\ Ob (a1 ≠ none) /\ ∃ n21, Reads H (fldA a1 10) [iw n21] /\ ((n21 == 0) = true -> Q (sw none 0 0) H) /\ ((n21 == 0) = false -> Triple prog 35 #[.pointer a1] H fun v22 H23 => ∃ b24,
 v22 = .bool b24 /\ (b24 = true -> ∃ H25, Vx.Sub H25 H23 /\ Ob (a1 ≠ none) /\ Ob (a1 ≠ none) /\
 ∃ n26 n27 n28 n29 n30 n31 n32 s33 b34 b35 n36 n37 a38 k39 k40 a41 k42 k43 a44 k45 k46 n47 b48 b49 b50 n51 n52 n53 a54 k55 k56 a57 k58 k59 a60 k61 k62, Reads H25 (fldA a1 11)
 [iw n26, iw n27, iw n28, iw n29, iw n30, iw n31, iw n32, .string s33, .bool b34, .bool b35, iw n36, iw n37, sw a38 k39 k40, sw a41 k42 k43, sw a44 k45 k46, iw n47, .bool b48, .bool b49, .bool b50, iw n51,
 iw n52, iw n53, sw a54 k55 k56, sw a57 k58 k59, sw a60 k61 k62] /\ Triple prog 46 #[Value.agg #[iw n26, iw n27, iw n28, iw n29, iw n30, iw n31, iw n32, .string s33, .bool b34, .bool b35, iw n36, iw n37,
 sw a38 k39 k40, sw a41 k42 k43, sw a44 k45 k46, iw n47, .bool b48, .bool b49, .bool b50, iw n51, iw n52, iw n53, sw a54 k55 k56, sw a57 k58 k59, sw a60 k61 k62], Value.agg
 #[iw n2, iw n3, iw n4, iw n5, .string s6, iw n7, iw n8, iw n9, iw n10, iw n11, sw a12 k13 k14, sw a15 k16 k17, sw a18 k19 k20]] H23 fun v63 H64 =>
 ∃ n65 n66 n67 n68 n69 n70 n71 s72 b73 b74 n75 n76 a77 k78 k79 a80 k81 k82 a83 k84 k85 n86 b87 b88 b89 n90 n91 n92 a93 k94 k95 a96 k97 k98 a99 k100 k101 a102 k103 k104, v63 = Value.tuple #[Value.agg
 #[iw n65, iw n66, iw n67, iw n68, iw n69, iw n70, iw n71, .string s72, .bool b73, .bool b74, iw n75, iw n76, sw a77 k78 k79, sw a80 k81 k82, sw a83 k84 k85, iw n86, .bool b87,
 .bool b88, .bool b89, iw n90, iw n91, iw n92, sw a93 k94 k95, sw a96 k97 k98, sw a99 k100 k101], sw a102 k103 k104] /\ Vx.Sub H25 H64 /\ ∀ (k105 : Nat), H64 k105 = none -> Vx.Sub H25 (H64.upd k105 (Obj.cells
 #[iw 0, iw 0, iw 0, iw 0, iw 0, iw 0, iw 0, .string ({ data := #[] } : ByteArray), .bool false, .bool false, iw 0, iw 0, sw none 0 0, sw none 0 0, sw none 0 0, iw 0, .bool false,
 .bool false, .bool false, iw 0, iw 0, iw 0, sw none 0 0, sw none 0 0, sw none 0 0] 48)) /\ ∃ H106, Writes (H64.upd k105 (Obj.cells #[iw 0, iw 0, iw 0, iw 0, iw 0,
 iw 0, iw 0, .string ({ data := #[] } : ByteArray), .bool false, .bool false, iw 0, iw 0, sw none 0 0, sw none 0 0, sw none 0 0, iw 0, .bool false, .bool false, .bool false, iw 0, iw 0, iw 0, sw none 0 0,
 sw none 0 0, sw none 0 0] 48)) H106 (at0 k105) [iw n65, iw n66, iw n67, iw n68, iw n69, iw n70, iw n71, .string s72, .bool b73, .bool b74, iw n75,
 iw n76, sw a77 k78 k79, sw a80 k81 k82, sw a83 k84 k85, iw n86, .bool b87, .bool b88, .bool b89, iw n90, iw n91, iw n92, sw a93 k94 k95, sw a96 k97 k98, sw a99 k100 k101] /\
 ∃ n107 n108 n109 n110 n111 n112 n113 s114 b115 b116 n117 n118 a119 k120 k121 a122 k123 k124 a125 k126 k127 n128 b129 b130 b131 n132 n133 n134 a135 k136 k137 a138 k139 k140 a141 k142 k143, Reads H106 (at0 k105)
 [iw n107, iw n108, iw n109, iw n110, iw n111, iw n112, iw n113, .string s114, .bool b115, .bool b116, iw n117, iw n118, sw a119 k120 k121, sw a122 k123 k124, sw a125 k126 k127, iw n128,
 .bool b129, .bool b130, .bool b131, iw n132, iw n133, iw n134, sw a135 k136 k137, sw a138 k139 k140, sw a141 k142 k143] /\ Triple prog 37 #[.pointer a1, Value.agg #[iw n107, iw n108, iw n109, iw n110,
 iw n111, iw n112, iw n113, .string s114, .bool b115, .bool b116, iw n117, iw n118, sw a119 k120 k121, sw a122 k123 k124, sw a125 k126 k127, iw n128, .bool b129, .bool b130, .bool b131, iw n132,
 iw n133, iw n134, sw a135 k136 k137, sw a138 k139 k140, sw a141 k142 k143], sw a102 k103 k104] H106 fun v144 H145 => ∃ a146 k147 k148, v144 = sw a146 k147 k148 /\ Q (sw a146 k147 k148) H145) /\ (b24 = false -> ∃ H149,
 Vx.Sub H149 H23 /\ Ob (a1 ≠ none) /\ Ob (a1 ≠ none) /\ ∃ n150, Reads H149 (fldA a1 10) [iw n150] /\ ((n150 == 5) = true -> ((bif n2 == 16 then true else bif n2 == 19 then true else n2 == 24) = true ->
 ((n11 == 10) = true -> Ob (a1 ≠ none) /\ Ob (a1 ≠ none) /\ ∃ n151, Reads H149 (fldA a1 6) [iw n151] /\ ((n5 == n151) = true -> Ob (a1 ≠ none) /\ Ob (a1 ≠ none) /\ Ob (fldA a1 40 ≠ none) /\ ∃ s152,
 Reads H149 (fldA (fldA a1 40) 4) [.string s152] /\ (eqS s6 s152 = true -> Ob (a1 ≠ none) /\ Ob (a1 ≠ none) /\ Ob (fldA a1 7 ≠ none) /\ ∃ n153, Reads H149 (fldA (fldA a1 7) 2) [iw n153] /\ ((n3 == n153) = false ->
 Ob (a1 ≠ none) /\ Ob (a1 ≠ none) /\ Ob (fldA a1 40 ≠ none) /\ ∃ a154 k155 k156, Reads H149 (fldA (fldA a1 40) 10) [sw a154 k155 k156] /\ Triple prog 47 #[sw a154 k155 k156, iw n3] H23 fun v157 H158 => ∃ b159,
 v157 = .bool b159 /\ (b159 = true -> Triple prog 40 #[.pointer a1] H158 fun v160 H161 => ∃ a162 k163 k164, v160 = sw a162 k163 k164 /\ Q (sw a162 k163 k164) H161) /\ (b159 = false -> Triple prog 48 #[.pointer a1,
 Value.agg #[iw n2, iw n3, iw n4, iw n5, .string s6, iw n7, iw n8, iw n9, iw n10, iw n11, sw a12 k13 k14, sw a15 k16 k17, sw a18 k19 k20]] H158 fun v165 H166 => ∃ b167, v165 = .bool b167 /\
 ((!b167) = true -> Q (sw none 0 0) H166) /\ ((!b167) = false -> ∃ H168, Vx.Sub H168 H166 /\ Ob (a1 ≠ none) /\ Ob (a1 ≠ none) /\ ∃ a169 k170 k171 a172 k173 k174 a175 k176 k177 n178, Reads H168 (fldA a1 36)
 [sw a169 k170 k171, sw a172 k173 k174, sw a175 k176 k177, iw n178] /\ Triple prog 49 #[Value.agg #[sw a169 k170 k171, sw a172 k173 k174, sw a175 k176 k177, iw n178], Value.agg #[iw n2, iw n3, iw n4, iw n5,
 .string s6, iw n7, iw n8, iw n9, iw n10, iw n11, sw a12 k13 k14, sw a15 k16 k17, sw a18 k19 k20]] H166 fun v179 H180 => ∃ a181 k182 k183 a184 k185 k186 a187 k188 k189 n190 b191, v179 = Value.tuple #[Value.agg
 #[sw a181 k182 k183, sw a184 k185 k186, sw a187 k188 k189, iw n190], .bool b191] /\ Vx.Sub H168 H180 /\ ∀ (k192 : Nat), H180 k192 = none -> Vx.Sub H168 (H180.upd k192 (Obj.cells #[sw none 0 0, sw none 0 0,
 sw none 0 0, iw 0] 44)) /\ ∃ H193, Writes (H180.upd k192 (Obj.cells #[sw none 0 0, sw none 0 0, sw none 0 0, iw 0] 44)) H193 (at0 k192) [sw a181 k182 k183, sw a184 k185 k186, sw a187 k188 k189, iw n190] /\
 ∃ a194 k195 k196 a197 k198 k199 a200 k201 k202 n203, Reads H193 (at0 k192) [sw a194 k195 k196, sw a197 k198 k199, sw a200 k201 k202, iw n203] /\ Ob (a1 ≠ none) /\ Ob (a1 ≠ none) /\ ∃ H204, Writes H193 H204 (fldA a1 36)
 [sw a194 k195 k196, sw a197 k198 k199, sw a200 k201 k202, iw n203] /\ ((!b191) = false -> ∃ a205 k206 k207 a208 k209 k210 a211 k212 k213 n214, Reads H204 (at0 k192) [sw a205 k206 k207, sw a208 k209 k210,
 sw a211 k212 k213, iw n214] /\ Triple prog 50 #[Value.agg #[sw a205 k206 k207, sw a208 k209 k210, sw a211 k212 k213, Value.int IntKind.i64 n214]] H204 fun v215 H216 => ∃ b217, v215 = .bool b217 /\ ((!b217) = true ->
 Q (sw none 0 0) H216) /\ ((!b217) = false -> Triple prog 38 #[.pointer a1] H216 fun v218 H219 => ∃ a220 k221 k222 b223, v218 = Value.tuple #[Value.slice a220 k221 k222, Value.bool b223] /\ Q (Value.slice a220 k221
 k222) H219)) /\ ((!b191) = !false -> Q (sw none 0 0) H204)))) /\ ((n3 == n153) = !false -> Triple prog 40 #[.pointer a1] H23 fun v224 H225 =>
 ∃ a226 k227 k228, v224 = sw a226 k227 k228 /\ Q (sw a226 k227 k228) H225)) /\ (eqS s6 s152 = !true -> Triple prog 48 #[.pointer a1, Value.agg #[iw n2, iw n3, iw n4, iw n5, .string s6, iw n7, iw n8, iw n9, iw n10,
 iw n11, sw a12 k13 k14, sw a15 k16 k17, sw a18 k19 k20]] H23 fun v229 H230 => ∃ b231, v229 = .bool b231 /\ ((!b231) = true -> Q (sw none 0 0) H230) /\ ((!b231) = false -> ∃ H232, Vx.Sub H232 H230 /\ Ob (a1 ≠ none) /\
 Ob (a1 ≠ none) /\ ∃ a233 k234 k235 a236 k237 k238 a239 k240 k241 n242, Reads H232 (fldA a1 36) [sw a233 k234 k235, sw a236 k237 k238, sw a239 k240 k241, iw n242] /\ Triple prog 49 #[Value.agg
 #[sw a233 k234 k235, sw a236 k237 k238, sw a239 k240 k241, iw n242], Value.agg #[iw n2, iw n3, iw n4, iw n5, .string s6, iw n7, iw n8, iw n9, iw n10, iw n11, sw a12 k13 k14, sw a15 k16 k17, sw a18 k19 k20]]
 H230 fun v243 H244 => ∃ a245 k246 k247 a248 k249 k250 a251 k252 k253 n254 b255, v243 = Value.tuple #[Value.agg #[sw a245 k246 k247, sw a248 k249 k250, sw a251 k252 k253, iw n254], .bool b255] /\ Vx.Sub H232 H244 /\
 ∀ (k256 : Nat), H244 k256 = none -> Vx.Sub H232 (H244.upd k256 (Obj.cells #[sw none 0 0, sw none 0 0, sw none 0 0, iw 0] 44)) /\ ∃ H257, Writes (H244.upd k256 (Obj.cells #[sw none 0 0, sw none 0 0, sw none 0 0, iw 0]
 44)) H257 (at0 k256) [sw a245 k246 k247, sw a248 k249 k250, sw a251 k252 k253, iw n254] /\ ∃ a258 k259 k260 a261 k262 k263 a264 k265 k266 n267, Reads H257 (at0 k256) [sw a258 k259 k260, sw a261 k262 k263,
 sw a264 k265 k266, iw n267] /\ Ob (a1 ≠ none) /\ Ob (a1 ≠ none) /\ ∃ H268, Writes H257 H268 (fldA a1 36) [sw a258 k259 k260, sw a261 k262 k263, sw a264 k265 k266, iw n267] /\ ((!b255) = false ->
 ∃ a269 k270 k271 a272 k273 k274 a275 k276 k277 n278, Reads H268 (at0 k256) [sw a269 k270 k271, sw a272 k273 k274, sw a275 k276 k277, iw n278] /\ Triple prog 50 #[Value.agg #[sw a269 k270 k271, sw a272 k273 k274,
 sw a275 k276 k277, iw n278]] H268 fun v279 H280 => ∃ b281, v279 = .bool b281 /\ ((!b281) = true -> Q (sw none 0 0) H280) /\ ((!b281) = false -> Triple prog 38 #[.pointer a1] H280 fun v282 H283 => ∃ a284 k285 k286 b287,
 v282 = Value.tuple #[sw a284 k285 k286, .bool b287] /\ Q (sw a284 k285 k286) H283)) /\ ((!b255) = !false -> Q (sw none 0 0) H268)))) /\ ((n5 == n151) = !true -> Triple prog 48 #[.pointer a1, Value.agg
 #[iw n2, iw n3, iw n4, iw n5, .string s6, iw n7, iw n8, iw n9, iw n10, iw n11, sw a12 k13 k14, sw a15 k16 k17, sw a18 k19 k20]] H23 fun v288 H289 => ∃ b290, v288 = .bool b290 /\
 ((!b290) = true -> Q (sw none 0 0) H289) /\ ((!b290) = false -> ∃ H291, Vx.Sub H291 H289 /\ Ob (a1 ≠ none) /\ Ob (a1 ≠ none) /\ ∃ a292 k293 k294 a295 k296 k297 a298 k299 k300 n301, Reads H291 (fldA a1 36)
 [sw a292 k293 k294, sw a295 k296 k297, sw a298 k299 k300, iw n301] /\ Triple prog 49 #[Value.agg #[sw a292 k293 k294, sw a295 k296 k297, sw a298 k299 k300, iw n301], Value.agg #[iw n2, iw n3, iw n4, iw n5,
 .string s6, iw n7, iw n8, iw n9, iw n10, iw n11, sw a12 k13 k14, sw a15 k16 k17, sw a18 k19 k20]] H289 fun v302 H303 => ∃ a304 k305 k306 a307 k308 k309 a310 k311 k312 n313 b314, v302 = Value.tuple #[Value.agg
 #[sw a304 k305 k306, sw a307 k308 k309, sw a310 k311 k312, iw n313], .bool b314] /\ Vx.Sub H291 H303 /\ ∀ (k315 : Nat), H303 k315 = none -> Vx.Sub H291 (H303.upd k315 (Obj.cells
 #[sw none 0 0, sw none 0 0, sw none 0 0, iw 0] 44)) /\ ∃ H316, Writes (H303.upd k315 (Obj.cells #[sw none 0 0, sw none 0 0, sw none 0 0, iw 0] 44)) H316 (at0 k315)
 [sw a304 k305 k306, sw a307 k308 k309, sw a310 k311 k312, iw n313] /\ ∃ a317 k318 k319 a320 k321 k322 a323 k324 k325 n326, Reads H316 (at0 k315) [sw a317 k318 k319, sw a320 k321 k322, sw a323 k324 k325, iw n326] /\
 Ob (a1 ≠ none) /\ Ob (a1 ≠ none) /\ ∃ H327, Writes H316 H327 (fldA a1 36) [sw a317 k318 k319, sw a320 k321 k322, sw a323 k324 k325, iw n326] /\ ((!b314) = false -> ∃ a328 k329 k330 a331 k332 k333 a334 k335 k336 n337,
 Reads H327 (at0 k315) [sw a328 k329 k330, sw a331 k332 k333, sw a334 k335 k336, iw n337] /\ Triple prog 50 #[Value.agg #[sw a328 k329 k330, sw a331 k332 k333, sw a334 k335 k336, iw n337]] H327 fun v338 H339 => ∃ b340,
 v338 = .bool b340 /\ ((!b340) = true -> Q (sw none 0 0) H339) /\ ((!b340) = false -> Triple prog 38 #[.pointer a1] H339 fun v341 H342 => ∃ a343 k344 k345 b346, v341 = .tuple #[sw a343 k344 k345, .bool b346] /\
 Q (sw a343 k344 k345) H342)) /\ ((!b314) = !false -> Q (sw none 0 0) H327)))) /\ ((n11 == 10) = !true -> Triple prog 48 #[.pointer a1, Value.agg #[iw n2, iw n3, iw n4, iw n5, .string s6, iw n7,
 iw n8, iw n9, iw n10, iw n11, sw a12 k13 k14, sw a15 k16 k17, sw a18 k19 k20]] H23 fun v347 H348 => ∃ b349, v347 = .bool b349 /\ ((!b349) = true -> Q (sw none 0 0) H348) /\ ((!b349) = false -> ∃ H350,
 Vx.Sub H350 H348 /\ Ob (a1 ≠ none) /\ Ob (a1 ≠ none) /\ ∃ a351 k352 k353 a354 k355 k356 a357 k358 k359 n360, Reads H350 (fldA a1 36) [sw a351 k352 k353, sw a354 k355 k356, sw a357 k358 k359, iw n360] /\ Triple prog 49
 #[.agg #[sw a351 k352 k353, sw a354 k355 k356, sw a357 k358 k359, iw n360], Value.agg #[iw n2, iw n3, iw n4, iw n5, .string s6, iw n7, iw n8, iw n9, iw n10, iw n11, sw a12 k13 k14, sw a15 k16 k17, sw a18 k19 k20]]
 H348 fun v361 H362 => ∃ a363 k364 k365 a366 k367 k368 a369 k370 k371 n372 b373, v361 = Value.tuple #[Value.agg #[sw a363 k364 k365, sw a366 k367 k368, sw a369 k370 k371, iw n372], .bool b373] /\ Vx.Sub H350 H362 /\
 ∀ (k374 : Nat), H362 k374 = none -> Vx.Sub H350 (H362.upd k374 (Obj.cells #[sw none 0 0, sw none 0 0, sw none 0 0, iw 0] 44)) /\ ∃ H375, Writes (H362.upd k374
 (Obj.cells #[sw none 0 0, sw none 0 0, sw none 0 0, iw 0] 44)) H375 (at0 k374) [sw a363 k364 k365, sw a366 k367 k368, sw a369 k370 k371, iw n372] /\ ∃ a376 k377 k378 a379 k380 k381 a382 k383 k384 n385,
 Reads H375 (at0 k374) [sw a376 k377 k378, sw a379 k380 k381, sw a382 k383 k384, iw n385] /\ Ob (a1 ≠ none) /\ Ob (a1 ≠ none) /\ ∃ H386, Writes H375 H386 (fldA a1 36)
 [sw a376 k377 k378, sw a379 k380 k381, sw a382 k383 k384, iw n385] /\ ((!b373) = false -> ∃ a387 k388 k389 a390 k391 k392 a393 k394 k395 n396, Reads H386 (at0 k374)
 [sw a387 k388 k389, sw a390 k391 k392, sw a393 k394 k395, iw n396] /\ Triple prog 50 #[Value.agg #[sw a387 k388 k389, sw a390 k391 k392, sw a393 k394 k395, iw n396]] H386 fun v397 H398 => ∃ b399, v397 = .bool b399 /\
 ((!b399) = true -> Q (sw none 0 0) H398) /\ ((!b399) = false -> Triple prog 38 #[.pointer a1] H398 fun v400 H401 => ∃ a402 k403 k404 b405, v400 = .tuple #[sw a402 k403 k404, .bool b405] /\
 Q (sw a402 k403 k404) H401)) /\ ((!b373) = !false -> Q (sw none 0 0) H386)))) /\ ((bif n2 == 16 then true else bif n2 == 19 then true else n2 == 24) = !true -> Triple prog 48 #[.pointer a1, Value.agg
 #[iw n2, iw n3, iw n4, iw n5, .string s6, iw n7, iw n8, iw n9, iw n10, iw n11, sw a12 k13 k14, sw a15 k16 k17, sw a18 k19 k20]] H23 fun v406 H407 => ∃ b408, v406 = .bool b408 /\
 ((!b408) = true -> Q (sw none 0 0) H407) /\ ((!b408) = false -> ∃ H409, Vx.Sub H409 H407 /\ Ob (a1 ≠ none) /\ Ob (a1 ≠ none) /\ ∃ a410 k411 k412 a413 k414 k415 a416 k417 k418 n419,
 Reads H409 (fldA a1 36) [sw a410 k411 k412, sw a413 k414 k415, sw a416 k417 k418, iw n419] /\ Triple prog 49 #[.agg #[sw a410 k411 k412, sw a413 k414 k415, sw a416 k417 k418, iw n419], Value.agg
 #[iw n2, iw n3, iw n4, iw n5, .string s6, iw n7, iw n8, iw n9, iw n10, iw n11, sw a12 k13 k14, sw a15 k16 k17, sw a18 k19 k20]] H407 fun v420 H421 => ∃ a422 k423 k424 a425 k426 k427 a428 k429 k430 n431 b432, v420 =
 Value.tuple #[.agg #[sw a422 k423 k424, sw a425 k426 k427, sw a428 k429 k430, iw n431], .bool b432] /\ Vx.Sub H409 H421 /\ ∀ (k433 : Nat), H421 k433 = none -> Vx.Sub H409 (H421.upd k433
 (Obj.cells #[sw none 0 0, sw none 0 0, sw none 0 0, iw 0] 44)) /\ ∃ H434, Writes (H421.upd k433 (Obj.cells #[sw none 0 0, sw none 0 0, sw none 0 0, iw 0] 44)) H434 (at0 k433)
 [sw a422 k423 k424, sw a425 k426 k427, sw a428 k429 k430, iw n431] /\ ∃ a435 k436 k437 a438 k439 k440 a441 k442 k443 n444, Reads H434 (at0 k433) [sw a435 k436 k437, sw a438 k439 k440, sw a441 k442 k443, iw n444] /\
 Ob (a1 ≠ none) /\ Ob (a1 ≠ none) /\ ∃ H445, Writes H434 H445 (fldA a1 36) [sw a435 k436 k437, sw a438 k439 k440, sw a441 k442 k443, iw n444] /\ ((!b432) = false -> ∃ a446 k447 k448 a449 k450 k451 a452 k453 k454 n455,
 Reads H445 (at0 k433) [sw a446 k447 k448, sw a449 k450 k451, sw a452 k453 k454, iw n455] /\ Triple prog 50 #[Value.agg #[sw a446 k447 k448, sw a449 k450 k451, sw a452 k453 k454, iw n455]] H445 fun v456 H457 => ∃ b458,
 v456 = .bool b458 /\ ((!b458) = true -> Q (sw none 0 0) H457) /\ ((!b458) = false -> Triple prog 38 #[.pointer a1] H457 fun v459 H460 => ∃ a461 k462 k463 b464, v459 = .tuple #[sw a461 k462 k463, .bool b464] /\
 Q (sw a461 k462 k463) H460)) /\ ((!b432) = !false -> Q (sw none 0 0) H445)))) /\ ((n150 == 5) = !true -> Triple prog 48 #[.pointer a1, Value.agg #[iw n2, iw n3, iw n4, iw n5, .string s6, iw n7,
 iw n8, iw n9, iw n10, iw n11, sw a12 k13 k14, sw a15 k16 k17, sw a18 k19 k20]] H23 fun v465 H466 => ∃ b467, v465 = .bool b467 /\ ((!b467) = true -> Q (sw none 0 0) H466) /\ ((!b467) = false -> ∃ H468,
 Vx.Sub H468 H466 /\ Ob (a1 ≠ none) /\ Ob (a1 ≠ none) /\ ∃ a469 k470 k471 a472 k473 k474 a475 k476 k477 n478, Reads H468 (fldA a1 36) [sw a469 k470 k471, sw a472 k473 k474, sw a475 k476 k477, iw n478] /\ Triple prog 49
 #[.agg #[sw a469 k470 k471, sw a472 k473 k474, sw a475 k476 k477, iw n478], Value.agg #[iw n2, iw n3, iw n4, iw n5, .string s6, iw n7, iw n8, iw n9, iw n10, iw n11, sw a12 k13 k14, sw a15 k16 k17, sw a18 k19 k20]]
 H466 fun v479 H480 => ∃ a481 k482 k483 a484 k485 k486 a487 k488 k489 n490 b491, v479 = Value.tuple #[.agg #[sw a481 k482 k483, sw a484 k485 k486, sw a487 k488 k489, iw n490], .bool b491] /\ Vx.Sub H468 H480 /\
 ∀ (k492 : Nat), H480 k492 = none -> Vx.Sub H468 (H480.upd k492 (Obj.cells #[sw none 0 0, sw none 0 0, sw none 0 0, iw 0] 44)) /\ ∃ H493, Writes (H480.upd k492
 (Obj.cells #[sw none 0 0, sw none 0 0, sw none 0 0, iw 0] 44)) H493 (at0 k492) [sw a481 k482 k483, sw a484 k485 k486, sw a487 k488 k489, iw n490] /\ ∃ a494 k495 k496 a497 k498 k499 a500 k501 k502 n503,
 Reads H493 (at0 k492) [sw a494 k495 k496, sw a497 k498 k499, sw a500 k501 k502, iw n503] /\ Ob (a1 ≠ none) /\ Ob (a1 ≠ none) /\ ∃ H504, Writes H493 H504 (fldA a1 36)
 [sw a494 k495 k496, sw a497 k498 k499, sw a500 k501 k502, iw n503] /\ ((!b491) = false -> ∃ a505 k506 k507 a508 k509 k510 a511 k512 k513 n514, Reads H504 (at0 k492)
 [sw a505 k506 k507, sw a508 k509 k510, sw a511 k512 k513, iw n514] /\ Triple prog 50 #[Value.agg #[sw a505 k506 k507, sw a508 k509 k510, sw a511 k512 k513, iw n514]] H504 fun v515 H516 => ∃ b517, v515 = .bool b517 /\
 ((!b517) = true -> Q (sw none 0 0) H516) /\ ((!b517) = false -> Triple prog 38 #[.pointer a1] H516 fun v518 H519 => ∃ a520 k521 k522 b523, v518 = .tuple #[sw a520 k521 k522, .bool b523] /\
 Q (sw a520 k521 k522) H519)) /\ ((!b491) = !false -> Q (sw none 0 0) H504)))))) : Triple prog 15 ([.pointer a1, Value.agg #[iw n2, iw n3, iw n4, iw n5, .string s6, iw n7, iw n8,
 iw n9, iw n10, iw n11, sw a12 k13 k14, sw a15 k16 k17, sw a18 k19 k20]]).toArray H Q := Triple.of_vc rcTake.cx (by kernel_rfl) h
theorem rcRound.vc (a1 : Option Addr) (n2 n3 n4 n5 n6 : Int) (s7 : ByteArray) (n8 n9 n10 n11 n12 : Int) (a13 : Option Addr) (k14 k15 : Nat) (a16 : Option Addr) (k17 k18 : Nat) (a19 : Option Addr) (k20 k21 : Nat) (a22 : Option Addr) (k23 k24 : Nat) (a25 : Option Addr) (k26 k27 : Nat) (H : PHeap) (Q : Value -> PHeap -> Prop)
 (h : Ob (a1 ≠ none) /\ Ob (a1 ≠ none) /\ ∃ n28, Reads H (fldA a1 6) [iw n28] /\ ∃ (R29 : Rl) (M30 : Mu), R29 [sw none 0 0, iw 0, Value.agg #[iw n3, iw n4, iw n5, iw n28, .string s7, iw n8, iw n9,
 iw n10, iw n11, iw n12, sw a13 k14 k15, sw a16 k17 k18, sw a19 k20 k21]] H /\
 ∀ (a31 : Option Addr) (k32 k33 : Nat) (n34 n35 n36 n37 n38 : Int) (s39 : ByteArray) (n40 n41 n42 n43 n44 : Int) (a45 : Option Addr) (k46 k47 : Nat) (a48 : Option Addr) (k49 k50 : Nat)
 (a51 : Option Addr) (k52 k53 : Nat) (H54 : PHeap), R29 [sw a31 k32 k33, iw n34, Value.agg #[iw n35, iw n36, iw n37, iw n38, .string s39, iw n40, iw n41, iw n42, iw n43, iw n44, sw a45 k46 k47, sw a48 k49 k50,
 sw a51 k52 k53]] H54 -> (decide (n34 < (k23 : Int)) = true -> Ob (a22 ≠ none /\ 0 ≤ n34 /\ n34 < (k23 : Int)) /\ ∃ n55, Reads H54 (elemA a22 n34 1) [iw n55] /\ ∀ (k56 : Nat), H54 k56 = none ->
 EvV prog (Builtin.append_ #[28, 28] 28 #[sw a31 k32 k33, sw (at0 k56) 1 1]) (H54.upd k56 (Obj.cells #[iw n35, iw n36, iw n55, iw n38, .string s39, iw n40, iw n41, iw n42, iw n43, iw n44, sw a45 k46 k47, sw a48 k49 k50,
 sw a51 k52 k53] 52)) fun v57 H58 => ∃ a59 k60 k61, v57 = sw a59 k60 k61 /\ R29 [sw a59 k60 k61, iw (IntKind.i64.wrap (n34 + 1)), Value.agg #[iw n35, iw n36, iw n55, iw n38, .string s39, iw n40,
 iw n41, iw n42, iw n43, iw n44, sw a45 k46 k47, sw a48 k49 k50, sw a51 k52 k53]] H58 /\ Less (M30 [sw a59 k60 k61, iw (IntKind.i64.wrap (n34 + 1)), Value.agg #[iw n35, iw n36, iw n55, iw n38, .string s39, iw n40,
 iw n41, iw n42, iw n43, iw n44, sw a45 k46 k47, sw a48 k49 k50, sw a51 k52 k53]] H58) (M30 [sw a31 k32 k33, iw n34, Value.agg #[iw n35, iw n36, iw n37, iw n38, .string s39, iw n40,
 iw n41, iw n42, iw n43, iw n44, sw a45 k46 k47, sw a48 k49 k50, sw a51 k52 k53]] H54)) /\ (decide (n34 < (k23 : Int)) = false -> Ob (a1 ≠ none) /\ Ob (a1 ≠ none) /\ ∃ H62, Writes H54 H62 (fldA a1 40)
 [iw n35, iw n36, iw n37, iw n38, .string s39, iw n40, iw n41, iw n42, iw n43, iw n44, sw a45 k46 k47, sw a48 k49 k50, sw a51 k52 k53] /\ Ob (a1 ≠ none) /\ Ob (a1 ≠ none) /\ ∃ H63, Writes H62 H63 (fldA a1 10) [iw n2] /\
 Ob (a1 ≠ none) /\ Ob (a1 ≠ none) /\ Ob (fldA a1 0 ≠ none) /\ ∃ n64, Reads H63 (fldA (fldA a1 0) 5) [iw n64] /\ Triple prog 63 #[iw n64, sw a31 k32 k33, sw a25 k26 k27] H63 fun v65 H66 =>
 ∃ a67 k68 k69 a70 k71 k72 a73 k74 k75 n76, v65 = .agg #[sw a67 k68 k69, sw a70 k71 k72, sw a73 k74 k75, iw n76] /\ Ob (a1 ≠ none) /\ Ob (a1 ≠ none) /\ ∃ H77,
 Writes H66 H77 (fldA a1 36) [sw a67 k68 k69, sw a70 k71 k72, sw a73 k74 k75, iw n76] /\ Q (sw a31 k32 k33) H77)) : Triple prog 27 ([.pointer a1, iw n2, Value.agg #[iw n3, iw n4, iw n5, iw n6, .string s7, iw n8, iw n9,
 iw n10, iw n11, iw n12, sw a13 k14 k15, sw a16 k17 k18, sw a19 k20 k21], sw a22 k23 k24, sw a25 k26 k27]).toArray H Q := Triple.of_vc rcRound.cx (by kernel_rfl) h
theorem rcAgree.vc (a1 : Option Addr) (s2 : ByteArray) (b3 : Bool) (n4 : Int) (H : PHeap) (Q : Value -> PHeap -> Prop)
 (h : ∃ H5, Vx.Sub H5 H /\ Ob (a1 ≠ none) /\ Ob (a1 ≠ none) /\ ∃ n6 n7 n8 n9 n10 n11, Reads H5 (fldA a1 0) [iw n6, iw n7, iw n8, iw n9, iw n10, iw n11] /\ Ob (a1 ≠ none) /\ Ob (a1 ≠ none) /\ ∃ n12,
 Reads H5 (fldA a1 6) [iw n12] /\ Triple prog 64 #[.agg #[iw n6, iw n7, iw n8, iw n9, iw n10, iw n11], iw n12, .string s2, .bool b3] H fun v13 H14 =>
 ∃ n15 n16 n17 n18 n19 n20 n21 s22 b23 b24 n25 n26 a27 k28 k29 a30 k31 k32 a33 k34 k35 n36 b37 b38 b39 n40 n41 n42 a43 k44 k45 a46 k47 k48 a49 k50 k51 a52 k53 k54, v13 = Value.tuple #[Value.agg
 #[iw n15, iw n16, iw n17, iw n18, iw n19, iw n20, iw n21, .string s22, .bool b23, .bool b24, iw n25, iw n26, sw a27 k28 k29, sw a30 k31 k32, sw a33 k34 k35, iw n36, .bool b37, .bool b38, .bool b39, iw n40,
 iw n41, iw n42, sw a43 k44 k45, sw a46 k47 k48, sw a49 k50 k51], sw a52 k53 k54] /\ Vx.Sub H5 H14 /\ ∀ (k55 : Nat), H14 k55 = none -> Vx.Sub H5 (H14.upd k55 (Obj.cells #[iw 0, iw 0, iw 0, iw 0, iw 0, iw 0,
 iw 0, .string ({ data := #[] } : ByteArray), .bool false, .bool false, iw 0, iw 0, sw none 0 0, sw none 0 0, sw none 0 0, iw 0, .bool false, .bool false, .bool false,
 iw 0, iw 0, iw 0, sw none 0 0, sw none 0 0, sw none 0 0] 48)) /\ ∃ H56, Writes (H14.upd k55 (Obj.cells #[iw 0, iw 0, iw 0, iw 0, iw 0, iw 0,
 iw 0, .string ({ data := #[] } : ByteArray), .bool false, .bool false, iw 0, iw 0, sw none 0 0, sw none 0 0, sw none 0 0, iw 0, .bool false, .bool false, .bool false,
 iw 0, iw 0, iw 0, sw none 0 0, sw none 0 0, sw none 0 0] 48)) H56 (at0 k55) [iw n15, iw n16, iw n17, iw n18, iw n19, iw n20, iw n21, .string s22, .bool b23, .bool b24, iw n25, iw n26,
 sw a27 k28 k29, sw a30 k31 k32, sw a33 k34 k35, iw n36, .bool b37, .bool b38, .bool b39, iw n40, iw n41, iw n42, sw a43 k44 k45, sw a46 k47 k48, sw a49 k50 k51] /\
 ∃ n57 n58 n59 n60 n61 n62 n63 s64 b65 b66 n67 n68 a69 k70 k71 a72 k73 k74 a75 k76 k77 n78 b79 b80 b81 n82 n83 n84 a85 k86 k87 a88 k89 k90 a91 k92 k93, Reads H56 (at0 k55) [iw n57, iw n58, iw n59, iw n60, iw n61,
 iw n62, iw n63, .string s64, .bool b65, .bool b66, iw n67, iw n68, sw a69 k70 k71, sw a72 k73 k74, sw a75 k76 k77, iw n78, .bool b79, .bool b80, .bool b81, iw n82, iw n83, iw n84, sw a85 k86 k87,
 sw a88 k89 k90, sw a91 k92 k93] /\ Ob (a1 ≠ none) /\ Ob (a1 ≠ none) /\ ∃ H94, Writes H56 H94 (fldA a1 11) [iw n57, iw n58, iw n59, iw n60, iw n61, iw n62, iw n63, .string s64, .bool b65, .bool b66, iw n67,
 iw n68, sw a69 k70 k71, sw a72 k73 k74, sw a75 k76 k77, iw n78, .bool b79, .bool b80, .bool b81, iw n82, iw n83, iw n84, sw a85 k86 k87, sw a88 k89 k90, sw a91 k92 k93] /\
 Ob (a1 ≠ none) /\ Ob (a1 ≠ none) /\ ∃ H95, Writes H94 H95 (fldA a1 10) [iw n4] /\ Q (sw a52 k53 k54) H95) : Triple prog 29 ([.pointer a1, .string s2, .bool b3, iw n4]).toArray H Q :=
 Triple.of_vc rcAgree.cx (by kernel_rfl) h
theorem rcAgrees.vc (a1 : Option Addr) (H : PHeap) (Q : Value -> PHeap -> Prop)
 (h : Ob (a1 ≠ none) /\ Ob (a1 ≠ none) /\ ∃ n2, Reads H (fldA a1 10) [iw n2] /\ ((n2 == 2) = false -> Ob (a1 ≠ none) /\ Ob (a1 ≠ none) /\ ∃ n3, Reads H (fldA a1 10) [iw n3] /\
 ((n3 == 4) = false -> Ob (a1 ≠ none) /\ Ob (a1 ≠ none) /\ ∃ n4, Reads H (fldA a1 10) [iw n4] /\ Q (.bool (n4 == 6)) H) /\ ((n3 == 4) = !false -> Q (.bool true) H)) /\ ((n2 == 2) = !false -> Q (.bool true) H)) :
 Triple prog 35 ([.pointer a1]).toArray H Q := Triple.of_vc rcAgrees.cx (by kernel_rfl) h
theorem rcAgreed.vc (a1 : Option Addr) (n2 n3 n4 n5 n6 n7 n8 : Int) (s9 : ByteArray) (b10 b11 : Bool) (n12 n13 : Int) (a14 : Option Addr) (k15 k16 : Nat) (a17 : Option Addr) (k18 k19 : Nat) (a20 : Option Addr) (k21 k22 : Nat) (n23 : Int) (b24 b25 b26 : Bool) (n27 n28 n29 : Int) (a30 : Option Addr) (k31 k32 : Nat) (a33 : Option Addr) (k34 k35 : Nat) (a36 : Option Addr) (k37 k38 : Nat) (a39 : Option Addr) (k40 k41 : Nat) (H : PHeap) (Q : Value -> PHeap -> Prop)
 (h : Ob (a1 ≠ none) /\ Ob (a1 ≠ none) /\ ∃ H42, Writes H H42 (fldA a1 11) [iw n2, iw n3, iw n4, iw n5, iw n6, iw n7, iw n8,
 .string s9, .bool b10, .bool b11, iw n12, iw n13, sw a14 k15 k16, sw a17 k18 k19, sw a20 k21 k22, iw n23, .bool b24, .bool b25, .bool b26, iw n27, iw n28, iw n29, sw a30 k31 k32, sw a33 k34 k35, sw a36 k37 k38] /\
 ((n12 != 2) = true -> Q (sw a39 k40 k41) H42) /\ ((n12 != 2) = false -> ((!b24) = true -> Triple prog 40 #[.pointer a1] H42 fun v43 H44 => ∃ a45 k46 k47, v43 = sw a45 k46 k47 /\ Q (sw a39 k40 k41) H44) /\
 ((!b24) = false -> Ob (a1 ≠ none) /\ Ob (a1 ≠ none) /\ ∃ n48, Reads H42 (fldA a1 10) [iw n48] /\ ((n48 == 2) = true -> Triple prog 74 #[.pointer a1] H42 fun v49 H50 => ∃ a51 k52 k53, v49 = sw a51 k52 k53 /\
 EvV prog (Builtin.append_ #[28, 28] 28 #[sw a39 k40 k41, sw a51 k52 k53]) H50 fun v54 H55 => ∃ a56 k57 k58, v54 = sw a56 k57 k58 /\ Q (sw a56 k57 k58) H55) /\ ((n48 == 2) = false -> Ob (a1 ≠ none) /\ Ob (a1 ≠ none) /\
 ∃ n59, Reads H42 (fldA a1 10) [iw n59] /\ ((n59 == 4) = true -> Triple prog 75 #[.pointer a1] H42 fun v60 H61 => ∃ a62 k63 k64, v60 = sw a62 k63 k64 /\
 EvV prog (Builtin.append_ #[28, 28] 28 #[sw a39 k40 k41, sw a62 k63 k64]) H61 fun v65 H66 => ∃ a67 k68 k69, v65 = sw a67 k68 k69 /\ Q (sw a67 k68 k69) H66) /\ ((n59 == 4) = false -> ∃ H70, Vx.Sub H70 H42 /\
 (b26 = false -> Ob (a1 ≠ none) /\ Ob (a1 ≠ none) /\ Ob (fldA a1 0 ≠ none) /\ ∃ n71, Reads H70 (fldA (fldA a1 0) 0) [iw n71] /\ (decide ((k34 : Int) < n71) = true -> Triple prog 40 #[.pointer a1] H42 fun v72 H73 =>
 ∃ a74 k75 k76, v72 = sw a74 k75 k76 /\ Q (sw a39 k40 k41) H73) /\ (decide ((k34 : Int) < n71) = false -> ∃ H77, Vx.Sub H77 H42 /\ Ob (a1 ≠ none) /\ Ob (a1 ≠ none) /\ Ob (fldA a1 7 ≠ none) /\ ∃ s78,
 Reads H77 (fldA (fldA a1 7) 1) [.string s78] /\ Ob (a1 ≠ none) /\ Ob (a1 ≠ none) /\ ∃ n79 n80 n81 n82 n83 n84, Reads H77 (fldA a1 0) [iw n79, iw n80, iw n81, iw n82, iw n83, iw n84] /\ Ob (a1 ≠ none) /\
 Ob (a1 ≠ none) /\ ∃ n85 n86 n87 n88 n89 n90, Reads H77 (fldA a1 0) [iw n85, iw n86, iw n87, iw n88, iw n89, iw n90] /\ Triple prog 28 #[Value.agg #[iw n79, iw n80, iw n81, iw n82, iw n83, iw n84]] H42 fun v91 H92 =>
 ∃ a93 k94 k95, v91 = sw a93 k94 k95 /\ Vx.Sub H77 H92 /\ Triple prog 28 #[Value.agg #[iw n85, iw n86, iw n87, iw n88, iw n89, iw n90]] H92 fun v96 H97 => ∃ a98 k99 k100, v96 = sw a98 k99 k100 /\ Vx.Sub H77 H97 /\
 Triple prog 27 #[.pointer a1, iw 7, Value.agg #[iw 8, iw 0, iw 0, iw 0, .string s78, iw 0, iw 0, iw 0, iw 0, iw 0, sw none 0 0, sw none 0 0, sw none 0 0], sw a93 k94 k95, sw a98 k99 k100] H97 fun v101 H102 =>
 ∃ a103 k104 k105, v101 = sw a103 k104 k105 /\ EvV prog (Builtin.append_ #[28, 28] 28 #[sw a39 k40 k41, sw a103 k104 k105]) H102 fun v106 H107 => ∃ a108 k109 k110,
 v106 = sw a108 k109 k110 /\ Q (sw a108 k109 k110) H107)) /\ (b26 = !false -> Triple prog 40 #[.pointer a1] H42 fun v111 H112 => ∃ a113 k114 k115, v111 = sw a113 k114 k115 /\ Q (sw a39 k40 k41) H112)))))) :
 Triple prog 37 ([.pointer a1, Value.agg #[iw n2, iw n3, iw n4, iw n5, iw n6, iw n7, iw n8, .string s9, .bool b10, .bool b11, iw n12, iw n13, sw a14 k15 k16, sw a17 k18 k19, sw a20 k21 k22,
 iw n23, .bool b24, .bool b25, .bool b26, iw n27, iw n28, iw n29, sw a30 k31 k32, sw a33 k34 k35, sw a36 k37 k38], sw a39 k40 k41]).toArray H Q := Triple.of_vc rcAgreed.cx (by kernel_rfl) h
theorem rcJudge.vc (a1 : Option Addr) (H : PHeap) (Q : Value -> PHeap -> Prop)
 (h : Ob (a1 ≠ none) /\ Ob (a1 ≠ none) /\ ∃ a2 k3 k4 a5 k6 k7 a8 k9 k10 n11, Reads H (fldA a1 36) [sw a2 k3 k4, sw a5 k6 k7, sw a8 k9 k10, iw n11] /\
 Triple prog 50 #[.agg #[sw a2 k3 k4, sw a5 k6 k7, sw a8 k9 k10, iw n11]] H fun v12 H13 => ∃ b14, v12 = .bool b14 /\ ∃ H15, Vx.Sub H15 H13 /\ Ob (a1 ≠ none) /\ Ob (a1 ≠ none) /\ ∃ n16, Reads H15 (fldA a1 10) [iw n16] /\
 ((n16 == 1) = true -> Ob (a1 ≠ none) /\ Ob (a1 ≠ none) /\ ∃ n17 n18 n19 n20 n21 n22, Reads H15 (fldA a1 0) [iw n17, iw n18, iw n19, iw n20, iw n21, iw n22] /\ Ob (a1 ≠ none) /\ Ob (a1 ≠ none) /\
 Ob (fldA a1 36 ≠ none) /\ ∃ a23 k24 k25, Reads H15 (fldA (fldA a1 36) 2) [sw a23 k24 k25] /\ Triple prog 76 #[Value.agg #[iw n17, iw n18, iw n19, iw n20, iw n21, iw n22], sw a23 k24 k25] H13 fun v26 H27 => ∃ b28,
 v26 = .bool b28 /\ (b28 = true -> ∃ H29, Vx.Sub H29 H27 /\ Ob (a1 ≠ none) /\ Ob (a1 ≠ none) /\ ∃ a30 k31 k32 s33 a34 k35 k36, Reads H29 (fldA a1 53) [sw a30 k31 k32, .string s33, sw a34 k35 k36] /\ Ob (a1 ≠ none) /\
 Ob (a1 ≠ none) /\ Ob (fldA a1 36 ≠ none) /\ ∃ a37 k38 k39, Reads H29 (fldA (fldA a1 36) 2) [sw a37 k38 k39] /\ Triple prog 77 #[.agg #[sw a30 k31 k32, .string s33, sw a34 k35 k36], sw a37 k38 k39] H27 fun v40 H41 =>
 ∃ a42 k43 k44 s45 a46 k47 k48 b49, v40 = .tuple #[.agg #[sw a42 k43 k44, .string s45, sw a46 k47 k48], .bool b49] /\ Vx.Sub H29 H41 /\ ∀ (k50 : Nat), H41 k50 = none -> Vx.Sub H29 (H41.upd k50
 (Obj.cells #[sw none 0 0, .string ({ data := #[] } : ByteArray), sw none 0 0] 54)) /\ ∃ H51, Writes (H41.upd k50 (Obj.cells #[sw none 0 0, .string ({ data := #[] } : ByteArray), sw none 0 0] 54)) H51 (at0 k50)
 [sw a42 k43 k44, .string s45, sw a46 k47 k48] /\ ∃ a52 k53 k54 s55 a56 k57 k58, Reads H51 (at0 k50) [sw a52 k53 k54, .string s55, sw a56 k57 k58] /\ Ob (a1 ≠ none) /\ Ob (a1 ≠ none) /\ ∃ H59,
 Writes H51 H59 (fldA a1 53) [sw a52 k53 k54, .string s55, sw a56 k57 k58] /\ ((!b49) = true -> ∃ H60, Vx.Sub H60 H59 /\ Ob (at0 k50 ≠ none) /\ ∃ s61, Reads H60 (fldA (at0 k50) 1) [.string s61] /\ Ob (a1 ≠ none) /\
 Ob (a1 ≠ none) /\ ∃ n62 n63 n64 n65 n66 n67, Reads H60 (fldA a1 0) [iw n62, iw n63, iw n64, iw n65, iw n66, iw n67] /\ Ob (a1 ≠ none) /\ Ob (a1 ≠ none) /\ ∃ n68 n69 n70 n71 n72 n73, Reads H60 (fldA a1 0)
 [iw n68, iw n69, iw n70, iw n71, iw n72, iw n73] /\ Triple prog 28 #[Value.agg #[iw n62, iw n63, iw n64, iw n65, iw n66, iw n67]] H59 fun v74 H75 => ∃ a76 k77 k78, v74 = sw a76 k77 k78 /\ Vx.Sub H60 H75 /\
 Triple prog 28 #[Value.agg #[iw n68, iw n69, iw n70, iw n71, iw n72, iw n73]] H75 fun v79 H80 => ∃ a81 k82 k83, v79 = sw a81 k82 k83 /\ Vx.Sub H60 H80 /\ Triple prog 27 #[.pointer a1, iw 1, Value.agg #[iw 6, iw 0,
 iw 0, iw 0, .string s61, iw 0, iw 0, iw 0, iw 0, iw 0, sw none 0 0, sw none 0 0, sw none 0 0], sw a76 k77 k78, sw a81 k82 k83] H80 fun v84 H85 => ∃ a86 k87 k88, v84 = sw a86 k87 k88 /\ Q (Value.tuple #[sw a86 k87 k88,
 .bool true]) H85) /\ ((!b49) = false -> Ob (at0 k50 ≠ none) /\ ∃ a89 k90 k91, Reads H59 (fldA (at0 k50) 0) [sw a89 k90 k91] /\ Ob (a1 ≠ none) /\ Ob (a1 ≠ none) /\ ∃ H92, Writes H59 H92 (fldA a1 56) [sw a89 k90 k91] /\
 Ob (at0 k50 ≠ none) /\ ∃ a93 k94 k95, Reads H92 (fldA (at0 k50) 2) [sw a93 k94 k95] /\ Ob (a1 ≠ none) /\ Ob (a1 ≠ none) /\ ∃ H96, Writes H92 H96 (fldA a1 57) [sw a93 k94 k95] /\ Triple prog 78 #[.pointer a1] H96
 fun v97 H98 => ∃ a99 k100 k101, v97 = sw a99 k100 k101 /\ Q (Value.tuple #[sw a99 k100 k101, .bool true]) H98)) /\ (b28 = false -> (b14 = true -> Triple prog 40 #[.pointer a1] H27 fun v102 H103 =>
 ∃ a104 k105 k106, v102 = sw a104 k105 k106 /\ Q (.tuple #[sw a104 k105 k106, .bool true]) H103) /\ (b14 = false -> Q (.tuple #[sw none 0 0, .bool false]) H27))) /\ ((n16 == 1) = !true -> (b14 = true ->
 Triple prog 40 #[.pointer a1] H13 fun v107 H108 => ∃ a109 k110 k111, v107 = sw a109 k110 k111 /\ Q (.tuple #[sw a109 k110 k111, .bool true]) H108) /\ (b14 = false -> Q (.tuple #[sw none 0 0, .bool false]) H13))) :
 Triple prog 38 ([.pointer a1]).toArray H Q := Triple.of_vc rcJudge.cx (by kernel_rfl) h
theorem rcOver.vc (a1 : Option Addr) (H : PHeap) (Q : Value -> PHeap -> Prop)
 (h : Ob (a1 ≠ none) /\ Ob (a1 ≠ none) /\ ∃ H2, Writes H H2 (fldA a1 10) [iw 0] /\ Q (sw none 0 0) H2) : Triple prog 40 ([.pointer a1]).toArray H Q := Triple.of_vc rcOver.cx (by kernel_rfl) h
theorem rcTakes.vc (a1 : Option Addr) (n2 n3 n4 n5 : Int) (s6 : ByteArray) (n7 n8 n9 n10 n11 : Int) (a12 : Option Addr) (k13 k14 : Nat) (a15 : Option Addr) (k16 k17 : Nat) (a18 : Option Addr) (k19 k20 : Nat) (H : PHeap) (Q : Value -> PHeap -> Prop)
 (h : ∃ H21, Vx.Sub H21 H /\ Ob (a1 ≠ none) /\ Ob (a1 ≠ none) /\ ∃ n22, Reads H21 (fldA a1 6) [iw n22] /\ ((n5 != n22) = false -> Ob (a1 ≠ none) /\ Ob (a1 ≠ none) /\ Ob (fldA a1 40 ≠ none) /\ ∃ s23,
 Reads H21 (fldA (fldA a1 40) 4) [.string s23] /\ ((!eqS s6 s23) = true -> Q (.bool false) H) /\ ((!eqS s6 s23) = false -> Ob (a1 ≠ none) /\ Ob (a1 ≠ none) /\ ∃ n24, Reads H (fldA a1 10) [iw n24] /\
 ((n24 == 1) = true -> Q (.bool (n2 == 20)) H) /\ ((n24 == 1) = false -> ((n24 == 3) = true -> Q (.bool (n2 == 21)) H) /\ ((n24 == 3) = false -> ((n24 == 5) = true -> Q (.bool (n2 == 25)) H) /\
 ((n24 == 5) = false -> Q (.bool (bif n2 == 22 then true else bif n2 == 19 then n11 == 8 else false)) H))))) /\ ((n5 != n22) = !false -> Q (.bool false) H)) : Triple prog 48 ([.pointer a1, Value.agg
 #[iw n2, iw n3, iw n4, iw n5, .string s6, iw n7, iw n8, iw n9, iw n10, iw n11, sw a12 k13 k14, sw a15 k16 k17, sw a18 k19 k20]]).toArray H Q := Triple.of_vc rcTakes.cx (by kernel_rfl) h
theorem rcNamed.vc (a1 : Option Addr) (H : PHeap) (Q : Value -> PHeap -> Prop)
 (h : Ob (a1 ≠ none) /\ Ob (a1 ≠ none) /\ ∃ a2 k3 k4, Reads H (fldA a1 56) [sw a2 k3 k4] /\ Ob (a2 ≠ none /\ (0 : Int) ≤ 0 /\ 0 < (k3 : Int)) /\ ∃ s5, Reads H (elemA a2 0 1) [.string s5] /\ Ob (a1 ≠ none) /\
 Ob (a1 ≠ none) /\ ∃ a6 k7 k8, Reads H (fldA a1 56) [sw a6 k7 k8] /\ Ob ((0 : Int) ≤ 1 /\ 1 ≤ (k7 : Int) /\ (k7 : Int) ≤ (k8 : Int)) /\ Ob (a1 ≠ none) /\ Ob (a1 ≠ none) /\ ∃ H9,
 Writes H H9 (fldA a1 56) [sw (slA a6 1 k8 1) ((k7 : Int).toNat - Int.toNat 1) (k8 - Int.toNat 1)] /\ Ob (a1 ≠ none) /\ Ob (a1 ≠ none) /\ Ob (fldA a1 11 ≠ none) /\ ∃ b10, Reads H9 (fldA (fldA a1 11) 17) [.bool b10] /\
 (b10 = true -> ∃ (R11 : Rl) (M12 : Mu), R11 [sw none 0 0, iw 0] H9 /\ ∀ (a13 : Option Addr) (k14 k15 : Nat) (n16 : Int) (H17 : PHeap), R11 [sw a13 k14 k15, iw n16] H17 -> Ob (a1 ≠ none) /\ Ob (a1 ≠ none) /\
 ∃ a18 k19 k20, Reads H17 (fldA a1 57) [sw a18 k19 k20] /\ (decide (n16 < (k19 : Int)) = true -> ∃ H21, Vx.Sub H21 H17 /\ Ob (a1 ≠ none) /\ Ob (a1 ≠ none) /\ Ob (fldA a1 11 ≠ none) /\ ∃ a22 k23 k24,
 Reads H21 (fldA (fldA a1 11) 23) [sw a22 k23 k24] /\ Ob (a1 ≠ none) /\ Ob (a1 ≠ none) /\ ∃ a25 k26 k27, Reads H21 (fldA a1 57) [sw a25 k26 k27] /\ Ob (a25 ≠ none /\ 0 ≤ n16 /\ n16 < (k26 : Int)) /\ ∃ n28,
 Reads H21 (elemA a25 n16 1) [iw n28] /\ Triple prog 47 #[sw a22 k23 k24, iw n28] H17 fun v29 H30 => ∃ b31, v29 = .bool b31 /\ (b31 = true -> Ob (a1 ≠ none) /\ Ob (a1 ≠ none) /\ ∃ a32 k33 k34,
 Reads H30 (fldA a1 57) [sw a32 k33 k34] /\ Ob (a32 ≠ none /\ 0 ≤ n16 /\ n16 < (k33 : Int)) /\ ∃ n35, Reads H30 (elemA a32 n16 1) [iw n35] /\ ∀ (k36 : Nat), H30 k36 = none -> EvV prog (Builtin.append_ #[42, 42] 42
 #[sw a13 k14 k15, sw (at0 k36) 1 1]) (H30.upd k36 (Obj.cells #[iw n35] 3)) fun v37 H38 => ∃ a39 k40 k41, v37 = sw a39 k40 k41 /\ R11 [sw a39 k40 k41, iw (IntKind.i64.wrap (n16 + 1))] H38 /\ Less (M12 [sw a39 k40 k41,
 iw (IntKind.i64.wrap (n16 + 1))] H38) (M12 [sw a13 k14 k15, iw n16] H17)) /\ (b31 = false -> R11 [sw a13 k14 k15, iw (IntKind.i64.wrap (n16 + 1))] H30 /\ Less (M12 [sw a13 k14 k15, iw (IntKind.i64.wrap (n16 + 1))] H30)
 (M12 [sw a13 k14 k15, iw n16] H17))) /\ (decide (n16 < (k19 : Int)) = false -> Ob (a1 ≠ none) /\ Ob (a1 ≠ none) /\ ∃ H42, Writes H17 H42 (fldA a1 57) [sw a13 k14 k15] /\ Ob (a1 ≠ none) /\ Ob (a1 ≠ none) /\
 Ob (fldA a1 11 ≠ none) /\ Ob (fldA (fldA a1 11) 18 ≠ none) /\ ∃ b43, Reads H42 (fldA (fldA (fldA a1 11) 18) 0) [.bool b43] /\ (b43 = true -> ∃ H44, Vx.Sub H44 H42 /\ Ob (a1 ≠ none) /\ Ob (a1 ≠ none) /\
 ∃ n45 n46 n47 n48 n49 n50, Reads H44 (fldA a1 0) [iw n45, iw n46, iw n47, iw n48, iw n49, iw n50] /\ Ob (a1 ≠ none) /\ Ob (a1 ≠ none) /\ Ob (fldA a1 11 ≠ none) /\ ∃ a51 k52 k53,
 Reads H44 (fldA (fldA a1 11) 22) [sw a51 k52 k53] /\ Triple prog 110 #[Value.agg #[iw n45, iw n46, iw n47, iw n48, iw n49, iw n50], sw a51 k52 k53] H42 fun v54 H55 => ∃ a56 k57 k58, v54 = sw a56 k57 k58 /\
 ∃ (R59 : Rl) (M60 : Mu), R59 [iw 0] H55 /\ ∀ (n61 : Int) (H62 : PHeap), R59 [iw n61] H62 -> (decide (n61 < (k57 : Int)) = true -> ∃ H63, Vx.Sub H63 H62 /\ Ob (a1 ≠ none) /\ Ob (a1 ≠ none) /\ ∃ n64 n65 n66 n67 n68 n69,
 Reads H63 (fldA a1 0) [iw n64, iw n65, iw n66, iw n67, iw n68, iw n69] /\ Ob (a1 ≠ none) /\ Ob (a1 ≠ none) /\ Ob (fldA a1 11 ≠ none) /\ ∃ a70 k71 k72, Reads H63 (fldA (fldA a1 11) 22) [sw a70 k71 k72] /\
 Ob (a56 ≠ none /\ 0 ≤ n61 /\ n61 < (k57 : Int)) /\ ∃ n73, Reads H63 (elemA a56 n61 1) [iw n73] /\ Triple prog 111 #[Value.agg #[iw n64, iw n65, iw n66, iw n67, iw n68, iw n69], sw a70 k71 k72, iw n73]
 H62 fun v74 H75 => ∃ a76 k77 k78 b79, v74 = Value.tuple #[sw a76 k77 k78, .bool b79] /\ (b79 = true -> ∃ H80, Vx.Sub H80 H75 /\ Ob (a1 ≠ none) /\ Ob (a1 ≠ none) /\ ∃ a81 k82 k83, Reads H80 (fldA a1 58) [sw a81
 k82 k83] /\ Ob (a56 ≠ none /\ 0 ≤ n61 /\ n61 < (k57 : Int)) /\ ∃ n84, Reads H80 (elemA a56 n61 1) [Value.int IntKind.i64 n84] /\ ∀ (k85 : Nat), H75 k85 = none -> Vx.Sub H80 (H75.upd k85 (Obj.cells #[Value.int
 IntKind.i64 2, Value.string s5, Value.int IntKind.i64 n84] 25)) /\ EvV prog (Builtin.append_ #[55, 55] 55 #[Value.slice a81 k82 k83, Value.slice (at0 k85) 1 1]) (H75.upd k85 (Obj.cells #[Value.int IntKind.i64 2,
 Value.string s5, Value.int IntKind.i64 n84] 25)) fun v86 H87 => ∃ a88 k89 k90, v86 = Value.slice a88 k89 k90 /\ Ob (a1 ≠ none) /\ Ob (a1 ≠ none) /\ ∃ H91, Writes H87 H91 (fldA a1 58) [Value.slice a88 k89 k90] /\ R59
 [Value.int IntKind.i64 (IntKind.i64.wrap (n61 + 1))] H91 /\ Less (M60 [Value.int IntKind.i64 (IntKind.i64.wrap (n61 + 1))] H91) (M60 [Value.int IntKind.i64 n61] H62)) /\ (b79 = false -> R59 [Value.int IntKind.i64
 (IntKind.i64.wrap (n61 + 1))] H75 /\ Less (M60 [Value.int IntKind.i64 (IntKind.i64.wrap (n61 + 1))] H75) (M60 [Value.int IntKind.i64 n61] H62))) /\ (decide (n61 < (k57 : Int)) = false ->
 Triple prog 78 #[.pointer a1] H62 fun v92 H93 => ∃ a94 k95 k96, v92 = sw a94 k95 k96 /\ Q (sw a94 k95 k96) H93)) /\ (b43 = false -> ∃ H97, Vx.Sub H97 H42 /\ Ob (a1 ≠ none) /\ Ob (a1 ≠ none) /\
 ∃ n98 n99 n100 n101 n102 n103, Reads H97 (fldA a1 0) [iw n98, iw n99, iw n100, iw n101, iw n102, iw n103] /\ Ob (a1 ≠ none) /\ Ob (a1 ≠ none) /\ Ob (fldA a1 11 ≠ none) /\ ∃ a104 k105 k106,
 Reads H97 (fldA (fldA a1 11) 24) [sw a104 k105 k106] /\ Triple prog 112 #[Value.agg #[iw n98, iw n99, iw n100, iw n101, iw n102, iw n103], sw a104 k105 k106] H42 fun v107 H108 => ∃ b109, v107 = .bool b109 /\
 (b109 = true -> Ob (a1 ≠ none) /\ Ob (a1 ≠ none) /\ ∃ a110 k111 k112, Reads H108 (fldA a1 58) [sw a110 k111 k112] /\ ∀ (k113 : Nat), H108 k113 = none -> EvV prog (Builtin.append_ #[55, 55] 55 #[sw a110 k111 k112,
 sw (at0 k113) 1 1]) (H108.upd k113 (Obj.cells #[iw 3, .string s5, iw 0] 25)) fun v114 H115 => ∃ a116 k117 k118, v114 = sw a116 k117 k118 /\ Ob (a1 ≠ none) /\ Ob (a1 ≠ none) /\ ∃ H119, Writes H115 H119 (fldA a1 58)
 [sw a116 k117 k118] /\ Triple prog 78 #[.pointer a1] H119 fun v120 H121 => ∃ a122 k123 k124, v120 = sw a122 k123 k124 /\ Q (sw a122 k123 k124) H121) /\ (b109 = false ->
 Triple prog 78 #[.pointer a1] H108 fun v125 H126 => ∃ a127 k128 k129, v125 = sw a127 k128 k129 /\ Q (sw a127 k128 k129) H126)))) /\ (b10 = false -> Ob (a1 ≠ none) /\ Ob (a1 ≠ none) /\ Ob (fldA a1 11 ≠ none) /\
 Ob (fldA (fldA a1 11) 18 ≠ none) /\ ∃ b130, Reads H9 (fldA (fldA (fldA a1 11) 18) 0) [.bool b130] /\ (b130 = true -> ∃ H131, Vx.Sub H131 H9 /\ Ob (a1 ≠ none) /\ Ob (a1 ≠ none) /\ ∃ n132 n133 n134 n135 n136 n137,
 Reads H131 (fldA a1 0) [iw n132, iw n133, iw n134, iw n135, iw n136, iw n137] /\ Ob (a1 ≠ none) /\ Ob (a1 ≠ none) /\ Ob (fldA a1 11 ≠ none) /\ ∃ a138 k139 k140, Reads H131 (fldA (fldA a1 11) 22) [sw a138 k139 k140] /\
 Triple prog 110 #[Value.agg #[iw n132, iw n133, iw n134, iw n135, iw n136, iw n137], sw a138 k139 k140] H9 fun v141 H142 => ∃ a143 k144 k145, v141 = sw a143 k144 k145 /\ ∃ (R146 : Rl) (M147 : Mu), R146 [iw 0] H142 /\
 ∀ (n148 : Int) (H149 : PHeap), R146 [iw n148] H149 -> (decide (n148 < (k144 : Int)) = true -> ∃ H150, Vx.Sub H150 H149 /\ Ob (a1 ≠ none) /\ Ob (a1 ≠ none) /\ ∃ n151 n152 n153 n154 n155 n156, Reads H150 (fldA a1 0)
 [iw n151, iw n152, iw n153, iw n154, iw n155, iw n156] /\ Ob (a1 ≠ none) /\ Ob (a1 ≠ none) /\ Ob (fldA a1 11 ≠ none) /\ ∃ a157 k158 k159, Reads H150 (fldA (fldA a1 11) 22) [sw a157 k158 k159] /\
 Ob (a143 ≠ none /\ 0 ≤ n148 /\ n148 < (k144 : Int)) /\ ∃ n160, Reads H150 (elemA a143 n148 1) [iw n160] /\ Triple prog 111 #[Value.agg #[iw n151, iw n152, iw n153, iw n154, iw n155, iw n156],
 sw a157 k158 k159, iw n160] H149 fun v161 H162 => ∃ a163 k164 k165 b166, v161 = .tuple #[sw a163 k164 k165, .bool b166] /\ (b166 = true -> ∃ H167, Vx.Sub H167 H162 /\ Ob (a1 ≠ none) /\ Ob (a1 ≠ none) /\
 ∃ a168 k169 k170, Reads H167 (fldA a1 58) [sw a168 k169 k170] /\ Ob (a143 ≠ none /\ 0 ≤ n148 /\ n148 < (k144 : Int)) /\ ∃ n171, Reads H167 (elemA a143 n148 1) [iw n171] /\ ∀ (k172 : Nat), H162 k172 = none ->
 Vx.Sub H167 (H162.upd k172 (Obj.cells #[iw 2, .string s5, iw n171] 25)) /\ EvV prog (Builtin.append_ #[55, 55] 55 #[sw a168 k169 k170, Value.slice (at0 k172) 1 1]) (H162.upd k172 (Obj.cells #[iw 2, .string s5, iw n171]
 25)) fun v173 H174 => ∃ a175 k176 k177, v173 = sw a175 k176 k177 /\ Ob (a1 ≠ none) /\ Ob (a1 ≠ none) /\ ∃ H178, Writes H174 H178 (fldA a1 58) [sw a175 k176 k177] /\ R146 [Value.int IntKind.i64 (IntKind.i64.wrap
 (n148 + 1))] H178 /\ Less (M147 [Value.int IntKind.i64 (IntKind.i64.wrap (n148 + 1))] H178) (M147 [Value.int IntKind.i64 n148] H149)) /\ (b166 = false -> R146 [iw (IntKind.i64.wrap (n148 + 1))] H162 /\ Less (M147
 [iw (IntKind.i64.wrap (n148 + 1))] H162) (M147 [iw n148] H149))) /\ (decide (n148 < (k144 : Int)) = false -> Triple prog 78 #[.pointer a1] H149 fun v179 H180 =>
 ∃ a181 k182 k183, v179 = sw a181 k182 k183 /\ Q (sw a181 k182 k183) H180)) /\ (b130 = false -> ∃ H184, Vx.Sub H184 H9 /\ Ob (a1 ≠ none) /\ Ob (a1 ≠ none) /\ ∃ n185 n186 n187 n188 n189 n190, Reads H184 (fldA a1 0)
 [iw n185, iw n186, iw n187, iw n188, iw n189, iw n190] /\ Ob (a1 ≠ none) /\ Ob (a1 ≠ none) /\ Ob (fldA a1 11 ≠ none) /\ ∃ a191 k192 k193, Reads H184 (fldA (fldA a1 11) 24) [sw a191 k192 k193] /\ Triple prog 112
 #[Value.agg #[iw n185, iw n186, iw n187, iw n188, iw n189, iw n190], sw a191 k192 k193] H9 fun v194 H195 => ∃ b196, v194 = .bool b196 /\ (b196 = true -> Ob (a1 ≠ none) /\ Ob (a1 ≠ none) /\ ∃ a197 k198 k199,
 Reads H195 (fldA a1 58) [sw a197 k198 k199] /\ ∀ (k200 : Nat), H195 k200 = none -> EvV prog (Builtin.append_ #[55, 55] 55 #[sw a197 k198 k199, sw (at0 k200) 1 1]) (H195.upd k200
 (Obj.cells #[iw 3, .string s5, iw 0] 25)) fun v201 H202 => ∃ a203 k204 k205, v201 = sw a203 k204 k205 /\ Ob (a1 ≠ none) /\ Ob (a1 ≠ none) /\ ∃ H206, Writes H202 H206 (fldA a1 58) [sw a203 k204 k205] /\
 Triple prog 78 #[.pointer a1] H206 fun v207 H208 => ∃ a209 k210 k211, v207 = sw a209 k210 k211 /\ Q (sw a209 k210 k211) H208) /\ (b196 = false -> Triple prog 78 #[.pointer a1] H195 fun v212 H213 =>
 ∃ a214 k215 k216, v212 = sw a214 k215 k216 /\ Q (sw a214 k215 k216) H213)))) : Triple prog 74 ([.pointer a1]).toArray H Q := Triple.of_vc rcNamed.cx (by kernel_rfl) h
theorem rcMend.vc (a1 : Option Addr) (H : PHeap) (Q : Value -> PHeap -> Prop)
 (h : Ob (a1 ≠ none) /\ Ob (a1 ≠ none) /\ Ob (fldA a1 11 ≠ none) /\ ∃ b2 n3 n4 n5, Reads H (fldA (fldA a1 11) 18) [.bool b2, iw n3, iw n4, iw n5] /\ ∃ H6, Vx.Sub H6 H /\ Ob (a1 ≠ none) /\ Ob (a1 ≠ none) /\
 ∃ n7 n8 n9 n10 n11 n12, Reads H6 (fldA a1 0) [iw n7, iw n8, iw n9, iw n10, iw n11, iw n12] /\ Ob (a1 ≠ none) /\ Ob (a1 ≠ none) /\ Ob (fldA a1 11 ≠ none) /\ ∃ a13 k14 k15,
 Reads H6 (fldA (fldA a1 11) 22) [sw a13 k14 k15] /\ Ob (a1 ≠ none) /\ Ob (a1 ≠ none) /\ Ob (fldA a1 7 ≠ none) /\ ∃ n16, Reads H6 (fldA (fldA a1 7) 2) [iw n16] /\ Triple prog 111 #[Value.agg
 #[iw n7, iw n8, iw n9, iw n10, iw n11, iw n12], sw a13 k14 k15, iw n16] H fun v17 H18 => ∃ a19 k20 k21 b22, v17 = .tuple #[sw a19 k20 k21, .bool b22] /\ ∃ H23, Vx.Sub H23 H18 /\ ((!b2) = false -> ((!b22) = false ->
 Ob (a1 ≠ none) /\ Ob (a1 ≠ none) /\ Ob (fldA a1 11 ≠ none) /\ ∃ a24 k25 k26, Reads H23 (fldA (fldA a1 11) 22) [sw a24 k25 k26] /\ Ob (a1 ≠ none) /\ Ob (a1 ≠ none) /\ Ob (fldA a1 7 ≠ none) /\ ∃ n27,
 Reads H23 (fldA (fldA a1 7) 2) [iw n27] /\ Triple prog 47 #[sw a24 k25 k26, iw n27] H18 fun v28 H29 => ∃ b30, v28 = .bool b30 /\ (b30 = true -> Triple prog 40 #[.pointer a1] H29 fun v31 H32 =>
 ∃ a33 k34 k35, v31 = sw a33 k34 k35 /\ Q (sw a33 k34 k35) H32) /\ (b30 = false -> ∃ H36, Vx.Sub H36 H29 /\ Ob (a1 ≠ none) /\ Ob (a1 ≠ none) /\ Ob (fldA a1 7 ≠ none) /\ ∃ n37, Reads H36 (fldA (fldA a1 7) 2) [iw n37] /\
 ∀ (k38 : Nat), H29 k38 = none -> Vx.Sub H36 (H29.upd k38 (Obj.cells #[] 3)) /\ EvV prog (Builtin.append_ #[42, 42] 42 #[sw (at0 k38) 0 0, sw a19 k20 k21]) (H29.upd k38 (Obj.cells #[] 3)) fun v39 H40 => ∃ a41 k42 k43,
 v39 = sw a41 k42 k43 /\ Vx.Sub H36 H40 /\ ∀ (k44 : Nat), H40 k44 = none -> EvV prog (Builtin.append_ #[42, 42] 42 #[sw a41 k42 k43, sw (at0 k44) 1 1]) (H40.upd k44 (Obj.cells #[iw n37] 3)) fun v45 H46 => ∃ a47 k48 k49,
 v45 = sw a47 k48 k49 /\ Triple prog 113 #[sw a47 k48 k49, sw none 0 0] H46 fun v50 H51 => ∃ a52 k53 k54, v50 = sw a52 k53 k54 /\ ∃ H55, Vx.Sub H55 H51 /\ Ob (a1 ≠ none) /\ Ob (a1 ≠ none) /\ Ob (fldA a1 7 ≠ none) /\
 ∃ s56, Reads H55 (fldA (fldA a1 7) 1) [.string s56] /\ Ob (a1 ≠ none) /\ Ob (a1 ≠ none) /\ Ob (fldA a1 7 ≠ none) /\ ∃ n57, Reads H55 (fldA (fldA a1 7) 2) [iw n57] /\ ∀ (k58 : Nat), H51 k58 = none -> Vx.Sub H55
 (H51.upd k58 (Obj.cells #[iw 0, iw 0, iw 0, iw 0, Value.string ({ data := #[] } : ByteArray), iw 0, iw 0, iw 0, iw 0, iw 0, sw none 0 0, sw none 0 0, sw none 0 0] 52)) /\ ∃ H59, Writes (H51.upd k58 (Obj.cells #[iw 0,
 iw 0, iw 0, iw 0, Value.string ({ data := #[] } : ByteArray), iw 0, iw 0, iw 0, iw 0, iw 0, sw none 0 0, sw none 0 0, sw none 0 0] 52)) H59 (at0 k58) [iw 10, iw 0, iw 0, iw 0, .string s56, iw n3, iw n4, iw n57, iw n5,
 iw 0, sw a19 k20 k21, sw none 0 0, sw none 0 0] /\ ∃ H60, Vx.Sub H60 H59 /\ ∃ n61 n62 n63 n64 s65 n66 n67 n68 n69 n70 a71 k72 k73 a74 k75 k76 a77 k78 k79, Reads H60 (at0 k58) [Value.int IntKind.i64 n61, Value.int
 IntKind.i64 n62, Value.int IntKind.i64 n63, Value.int IntKind.i64 n64, .string s65, Value.int IntKind.i64 n66, Value.int IntKind.i64 n67, Value.int IntKind.i64 n68, Value.int IntKind.i64 n69, Value.int IntKind.i64 n70,
 sw a71 k72 k73, sw a74 k75 k76, sw a77 k78 k79] /\ Ob (a1 ≠ none) /\ Ob (a1 ≠ none) /\ Ob (fldA a1 7 ≠ none) /\ ∃ n80, Reads H60 (fldA (fldA a1 7) 2) [Value.int IntKind.i64 n80] /\ ∀ (k81 : Nat), H59 k81 = none ->
 Vx.Sub H60 (H59.upd k81 (Obj.cells #[Value.int IntKind.i64 n80] 3)) /\ Triple prog 27 #[Value.pointer a1, Value.int IntKind.i64 5, Value.agg #[Value.int IntKind.i64 n61, Value.int IntKind.i64 n62, Value.int IntKind.i64
 n63, Value.int IntKind.i64 n64, Value.string s65, Value.int IntKind.i64 n66, Value.int IntKind.i64 n67, Value.int IntKind.i64 n68, Value.int IntKind.i64 n69, Value.int IntKind.i64 n70, Value.slice a71 k72 k73,
 Value.slice a74 k75 k76, Value.slice a77 k78 k79], Value.slice a52 k53 k54, Value.slice (at0 k81) 1 1] (H59.upd k81 (Obj.cells #[Value.int IntKind.i64 n80] 3)) fun v82 H83 => ∃ a84 k85 k86, v82 = Value.slice a84 k85
 k86 /\ Q (Value.slice a84 k85 k86) H83)) /\ ((!b22) = !false -> Triple prog 40 #[.pointer a1] H18 fun v87 H88 => ∃ a89 k90 k91, v87 = sw a89 k90 k91 /\ Q (sw a89 k90 k91) H88)) /\ ((!b2) = !false ->
 Triple prog 40 #[.pointer a1] H18 fun v92 H93 => ∃ a94 k95 k96, v92 = sw a94 k95 k96 /\ Q (sw a94 k95 k96) H93)) : Triple prog 75 ([.pointer a1]).toArray H Q := Triple.of_vc rcMend.cx (by kernel_rfl) h
theorem rcName.vc (a1 : Option Addr) (H : PHeap) (Q : Value -> PHeap -> Prop)
 (h : Ob (a1 ≠ none) /\ Ob (a1 ≠ none) /\ ∃ a2 k3 k4, Reads H (fldA a1 56) [sw a2 k3 k4] /\ (decide ((k3 : Int) > 0) = true -> ∃ H5, Vx.Sub H5 H /\ Ob (a1 ≠ none) /\ Ob (a1 ≠ none) /\ ∃ a6 k7 k8,
 Reads H5 (fldA a1 56) [sw a6 k7 k8] /\ Ob (a6 ≠ none /\ (0 : Int) ≤ 0 /\ 0 < (k7 : Int)) /\ ∃ s9, Reads H5 (elemA a6 0 1) [.string s9] /\ Ob (a1 ≠ none) /\ Ob (a1 ≠ none) /\ Ob (fldA a1 53 ≠ none) /\ ∃ a10 k11 k12,
 Reads H5 (fldA (fldA a1 53) 2) [sw a10 k11 k12] /\ Triple prog 29 #[.pointer a1, .string s9, .bool (decide ((k11 : Int) > 0)), iw 2] H fun v13 H14 => ∃ a15 k16 k17, v13 = sw a15 k16 k17 /\ Q (sw a15 k16 k17) H14) /\
 (decide ((k3 : Int) > 0) = false -> Ob (a1 ≠ none) /\ Ob (a1 ≠ none) /\ ∃ a18 k19 k20, Reads H (fldA a1 57) [sw a18 k19 k20] /\ (decide ((k19 : Int) > 0) = true -> ∃ H21, Vx.Sub H21 H /\ Ob (a1 ≠ none) /\
 Ob (a1 ≠ none) /\ ∃ a22 k23 k24, Reads H21 (fldA a1 57) [sw a22 k23 k24] /\ Ob (a1 ≠ none) /\ Ob (a1 ≠ none) /\ ∃ a25 k26 k27, Reads H21 (fldA a1 57) [sw a25 k26 k27] /\ Triple prog 27 #[.pointer a1, iw 3, Value.agg
 #[iw 7, iw 0, iw 0, iw 0, .string ({ data := #[] } : ByteArray), iw 0, iw 0, iw 0, iw 0, iw 0, sw none 0 0, sw none 0 0, sw none 0 0], sw a22 k23 k24, sw a25 k26 k27]
 H fun v28 H29 => ∃ a30 k31 k32, v28 = sw a30 k31 k32 /\ Q (sw a30 k31 k32) H29) /\ (decide ((k19 : Int) > 0) = false ->
 Triple prog 40 #[.pointer a1] H fun v33 H34 => ∃ a35 k36 k37, v33 = sw a35 k36 k37 /\ Q (sw a35 k36 k37) H34))) : Triple prog 78 ([.pointer a1]).toArray H Q := Triple.of_vc rcName.cx (by kernel_rfl) h
end Go.Vc
namespace Go.Cho
open Go.Vx Go.Vc Go.Proofs Go.Pln Go.Stl Go.Agr
open Go.Hp (rest_ok restL restL_spec restL_len Asc asc_ext has_ok refRest_ok)
open Go.Rnd (takesG insG froms againG OkM AscG RdR RV)
open Go.Txt (sE)
open Go.Page (limL namesL susL susStep cntL sumN names_ noS stateL)
structure RX where
  s : Agr.St
  st : Int
  ar : RV
  ax : AV
  rr : RV
  rt : Int
  am : Msg
  pn : Pl
  ps : Pl
  nm : Pl
  su : Pl
  ch : Pl
abbrev aL (x : RX) : List Value := cellsV x.s x.st x.ar x.ax
abbrev rL (r : RV) (n : Int) : List Value := [.slice r.a r.an r.ac, .slice r.w r.wn r.wc, .slice r.g r.gn r.gc, vI n]
abbrev cellsR (t : TS) (x : RX) : List Value :=
  [vI t.p.n, vI t.p.t, vI t.p.l, vI t.p.w, vI t.p.s, vI t.p.r, vI t.ballot, vI t.c.k, .string t.c.nm, vI t.c.tg, vI t.at_,
   vI x.s.p.n, vI x.s.p.t, vI x.s.p.l, vI x.s.p.w, vI x.s.p.s, vI x.s.p.r, vI x.s.ballot, .string x.s.name, .bool x.s.force, .bool x.s.live, vI x.st, vI x.s.mark, .slice x.ar.a x.ar.an x.ar.ac, .slice x.ar.w x.ar.wn x.ar.wc, .slice x.ar.g x.ar.gn x.ar.gc, vI x.s.tries,
   .bool x.s.ok, .bool x.s.fixed, .bool x.s.value.pr, vI x.s.value.at_, vI x.s.value.ep, vI x.s.value.sz, .slice x.ax.h x.ax.hn x.ax.hc, .slice x.ax.a x.ax.an x.ax.ac, .slice x.ax.s x.ax.sn x.ax.sc,
   .slice x.rr.a x.rr.an x.rr.ac, .slice x.rr.w x.rr.wn x.rr.wc, .slice x.rr.g x.rr.gn x.rr.gc, vI x.rt,
   vI x.am.1, vI x.am.2.1, vI x.am.2.2.1, vI x.am.2.2.2.1, .string x.am.2.2.2.2.1, vI x.am.2.2.2.2.2.1, vI x.am.2.2.2.2.2.2.1, vI x.am.2.2.2.2.2.2.2.1, vI x.am.2.2.2.2.2.2.2.2.1, vI x.am.2.2.2.2.2.2.2.2.2.1, slV x.am.2.2.2.2.2.2.2.2.2.2.1, slV x.am.2.2.2.2.2.2.2.2.2.2.2.1, slV x.am.2.2.2.2.2.2.2.2.2.2.2.2,
   x.pn.v, .string t.after, x.ps.v, x.nm.v, x.su.v, x.ch.v]
abbrev tTr : TypeId := 57
abbrev tCr : TypeId := 25
/-- Its lists, which stay. -/
structure RcP (F : PHeap) (t : TS) (x : RX) : Prop where
  pn : RdL F sE 1 x.pn.a x.pn.n t.pn
  pnc : x.pn.n ≤ x.pn.c
  ps : RdL F iE 1 x.ps.a x.ps.n t.ps
  nm : RdL F sE 1 x.nm.a x.nm.n t.names
  nmc : x.nm.n ≤ x.nm.c
  su : RdL F iE 1 x.su.a x.su.n t.sus
  an : x.am.2.2.2.2.1 = t.askN
  aw : RdL F iE 1 (who_ x.am).oa (who_ x.am).n t.askW
theorem RcP.mono {F F' : PHeap} {t : TS} {x : RX} (h : RcP F t x) (hs : Sub F F') : RcP F' t x := ⟨h.pn.mono hs, h.pnc, h.ps.mono hs, h.nm.mono hs, h.nmc, h.su.mono hs, h.an, h.aw.mono hs⟩
theorem RcP.wr {F : PHeap} {t t' : TS} {x x' : RX} (h : RcP F t x) (e1 : x'.pn = x.pn) (e2 : x'.ps = x.ps) (e3 : x'.nm = x.nm) (e4 : x'.su = x.su) (e5 : x'.am = x.am) (g1 : t'.pn = t.pn) (g2 : t'.ps = t.ps) (g3 : t'.names = t.names) (g4 : t'.sus = t.sus) (g5 : t'.askN = t.askN) (g6 : t'.askW = t.askW) : RcP F t' x' := by
  obtain ⟨h1, h2, h3, h4, h5, h6, h7, h8⟩ := h
  constructor
  · rw [e1, g1]; exact h1
  · rw [e1]; exact h2
  · rw [e2, g2]; exact h3
  · rw [e3, g3]; exact h4
  · rw [e3]; exact h5
  · rw [e4, g4]; exact h6
  · rw [e5, g5]; exact h7
  · rw [e5, g6]; exact h8
/-- The block k of H holds the document's task, beside F. -/
structure RcB (F H : PHeap) (k : Nat) (t : TS) (x : RX) : Prop where
  sub : Sub F H
  off : F k = none
  bx : Bx H k tTr (cellsR t x)
  p : RcP F t x
  ch : OwnL H tCr chE 3 x.ch.a x.ch.n x.ch.c t.chores
  cho : Off F x.ch.a
  chk : ∀ z, x.ch.a = some z → z.block ≠ k
theorem RcB.stay {F H F' H' : PHeap} {k : Nat} {t : TS} {x : RX} (h : RcB F H k t x) (hs : Stay F H F' H') : RcB F' H' k t x :=
  have hh := hs.hsub h.sub
  ⟨hs.sub, hs.none h.bx h.off, h.bx.sub hh, h.p.mono hs.fsub, Owns.mono h.ch fun _ _ _ hb => hh.le _ _ hb, hs.off h.cho h.ch, h.chk⟩
theorem RcB.mono {F H H' : PHeap} {k : Nat} {t : TS} {x : RX} (h : RcB F H k t x) (hs : Sub H H') : RcB F H' k t x :=
  ⟨h.sub.trans hs, h.off, h.bx.sub hs, h.p, Owns.mono h.ch fun _ _ _ hb => hs.le _ _ hb, h.cho, h.chk⟩
theorem RcB.put {F H : PHeap} {k : Nat} {t t' : TS} {x x' : RX} (h : RcB F H k t x) (hp : RcP F t' x') (e1 : x'.ch = x.ch) (e2 : t'.chores = t.chores) : RcB F (H.upd k (.cells (cellsR t' x').toArray tTr (0, 0))) k t' x' := by
  refine ⟨h.sub.wr h.off, h.off, Bx.new _ _ _ _, hp, ?_, by rw [e1]; exact h.cho, by rw [e1]; exact h.chk⟩
  rw [e1, e2]
  exact Owns.mono h.ch fun a o ha hb => by rw [Vx.upd_ne _ _ (h.chk a ha)]; exact hb
theorem planRR {F H : PHeap} {k : Nat} {t : TS} {x : RX} (h : RcB F H k t x) : Reads H (fldA (at0 k) 0) [vI t.p.n, vI t.p.t, vI t.p.l, vI t.p.w, vI t.p.s, vI t.p.r] := h.bx.readsAt 0 fun j v hv => by
  match j, hv with
  | 0, hv => exact hv
  | 1, hv => exact hv
  | 2, hv => exact hv
  | 3, hv => exact hv
  | 4, hv => exact hv
  | 5, hv => exact hv
  | j + 6, hv => simp at hv
/-- What it waits for. -/
structure RcA (F : PHeap) (t : TS) (x : RX) : Prop where
  ag : t.agrees = true → RefA F (.agg (aL x).toArray) t.A
  rd : t.agrees = false → t.at_ ≠ 0 → x.rt = t.tries ∧ ∃ asks, RdR F x.rr asks t.wait t.G ∧ asks.map strip = t.asks ∧ (∀ m ∈ asks, OkM F m) ∧ ∀ m ∈ t.G, OkC F m
def RcS (H0 H : PHeap) (k : Nat) (t : TS) : Prop := ∃ F x, Sub H0 F ∧ RcB F H k t x ∧ RcA F t x
abbrev OutR (H0 : PHeap) (k : Nat) (r : TS × List Msg) (v : Value) (H' : PHeap) : Prop := SaidL r.2 v H' ∧ RcS H0 H' k r.1
theorem outR_slice {H0 : PHeap} {k : Nat} {r : TS × List Msg} {v : Value} {H' : PHeap} {Q : Value → PHeap → Prop} (h : OutR H0 k r v H') (hQ : ∀ v, OutR H0 k r v H' → Q v H') : ∃ a n c, v = .slice a n c ∧ Q (.slice a n c) H' := by
  obtain ⟨⟨b, n, c, l, rfl, q1⟩, q2⟩ := h
  exact ⟨b, n, c, rfl, hQ _ ⟨⟨b, n, c, l, rfl, q1⟩, q2⟩⟩
theorem RcS.mono {H0 H H' : PHeap} {k : Nat} {t : TS} (h : RcS H0 H k t) (hs : Sub H H') : RcS H0 H' k t := by
  obtain ⟨F, x, h1, h2, h3⟩ := h
  exact ⟨F, x, h1, h2.mono hs, h3⟩
theorem RcS.sub {H0 H : PHeap} {k : Nat} {t : TS} (h : RcS H0 H k t) : Sub H0 H := by
  obtain ⟨F, x, h1, h2, h3⟩ := h
  exact h1.trans h2.sub
theorem Stay.grow {F H H' : PHeap} (h : Sub F H) (hs : Sub H H') : Stay F H (grow F H H') H' := ⟨grow_le h, grow_sub h hs, fun _ _ hq hf => ⟨hs.le _ _ hq, grow_off hq hf⟩⟩
theorem wA {H : PHeap} {k : Nat} {t : TS} {x : RX} (h : Bx H k tTr (cellsR t x)) (s : Agr.St) (st : Int) (ar : RV) (ax : AV) :
    Writes H (H.upd k (.cells (cellsR t { x with s := s, st := st, ar := ar, ax := ax }).toArray tTr (0, 0))) (fldA (at0 k) 11) (cellsV s st ar ax) :=
  (h.writes (cellsR t { x with s := s, st := st, ar := ar, ax := ax }) rfl).part (A := (cellsR t x).take 11) (l2 := cellsV s st ar ax) (B := (cellsR t x).drop 36) (old := aL x) h.reads rfl
theorem wR {H : PHeap} {k : Nat} {t : TS} {x : RX} (h : Bx H k tTr (cellsR t x)) (rr : RV) (rt : Int) :
    Writes H (H.upd k (.cells (cellsR t { x with rr := rr, rt := rt }).toArray tTr (0, 0))) (fldA (at0 k) 36) (rL rr rt) :=
  (h.writes (cellsR t { x with rr := rr, rt := rt }) rfl).part (A := (cellsR t x).take 36) (l2 := rL rr rt) (B := (cellsR t x).drop 40) (old := rL x.rr x.rt) h.reads rfl
theorem wM {H : PHeap} {k : Nat} {t : TS} {x : RX} (h : Bx H k tTr (cellsR t x)) (m : Msg) :
    Writes H (H.upd k (.cells (cellsR t { x with am := m }).toArray tTr (0, 0))) (fldA (at0 k) 40) (mL m) :=
  (h.writes (cellsR t { x with am := m }) rfl).part (A := (cellsR t x).take 40) (l2 := mL m) (B := (cellsR t x).drop 53) (old := mL x.am) h.reads rfl
theorem over_okR {F H : PHeap} {k : Nat} {t : TS} {x : RX} (h : RcB F H k t x) : Triple Tryz.prog 40 #[.pointer (at0 k)] H fun v H' => v = .slice none 0 0 ∧ RcB F H' k t.over x := by
  refine rcOver.vc (at0 k) H _ ⟨obP k, obP k, _, h.bx.put (i := 10) (x := vI 0) (by show 10 < 59; decide), rfl, ?_⟩
  exact h.put (t' := t.over) (x' := x) (h.p.wr rfl rfl rfl rfl rfl rfl rfl rfl rfl rfl rfl) rfl rfl
theorem rcS_over {H0 F H : PHeap} {k : Nat} {t : TS} {x : RX} (hF : Sub H0 F) (h : RcB F H k t.over x) : RcS H0 H k t.over := ⟨F, x, hF, h, (fun e => by cases e), fun _ e => absurd rfl e⟩
theorem over_outR {H0 F H : PHeap} {k : Nat} {t : TS} {x : RX} (hF : Sub H0 F) (h : RcB F H k t x) : Triple Tryz.prog 40 #[.pointer (at0 k)] H fun v H' => v = .slice none 0 0 ∧ OutR H0 k (t.over, []) v H' :=
  (over_okR h).mono fun v H' ⟨e, g⟩ => ⟨e, by rw [e]; exact SaidL.nil _, rcS_over hF g⟩
theorem agree_okR {H0 F H : PHeap} {k : Nat} {t : TS} {x : RX} {nm : ByteArray} {force : Bool} {at' : Int} (hF : Sub H0 F) (h : RcB F H k t x) (hp : t.p.ok = true) (ha : at' = 2 ∨ at' = 4 ∨ at' = 6) :
    Triple Tryz.prog 29 #[.pointer (at0 k), .string nm, .bool force, vI at'] H (OutR H0 k (t.agree nm force at')) := by
  refine rcAgree.vc (at0 k) nm force at' H _ ⟨H, Sub.refl _, obP k, obP k, _, _, _, _, _, _, planRR h, obP k, obP k, _, h.bx.fld (i := 6) rfl,
    (Triple.ro (R := fun v F' => ∃ u b n c, v = .tuple #[u, .slice b n c] ∧ RefA F' u ((init0 t.p t.ballot nm force false (IntKind.i64.wrap (2 * t.ballot))).ask mask).1 ∧ RdL F' mE 13 b n ((init0 t.p t.ballot nm force false (IntKind.i64.wrap (2 * t.ballot))).ask mask).2)
      ((raSettle_ok (p := t.p) (b := t.ballot) (nm := nm) (force := force) hp).mono fun v F' ⟨u, b, n, c, g1, g2, g3, g4⟩ => ⟨⟨u, b, n, c, g1, g2, g3⟩, g4⟩) h.sub).mono ?_⟩
  rintro _ H14 ⟨F1, ⟨_, b, n, c, rfl, hA, hl⟩, st⟩
  have hA0 := hA
  obtain ⟨_, _, r, xx, rfl, hR, hS⟩ := hA
  have h1 := h.stay st
  have hs := st.hsub h.sub
  obtain ⟨_, s2, s3⟩ := Sml.ask (s := init0 t.p t.ballot nm force false (IntKind.i64.wrap (2 * t.ballot))) (m := mask) hp (Nat.zero_le _) (Nat.zero_le _) (Nat.zero_le _) bare_ask
  have hag : t.agree nm force at' = ({ t with A := ((init0 t.p t.ballot nm force false (IntKind.i64.wrap (2 * t.ballot))).ask mask).1, at_ := at' }, ((init0 t.p t.ballot nm force false (IntKind.i64.wrap (2 * t.ballot))).ask mask).2) := rfl
  rw [hag]
  generalize (init0 t.p t.ballot nm force false (IntKind.i64.wrap (2 * t.ballot))).ask mask = S at hA0 hR hS hl s2 s3 ⊢
  refine ⟨_, _, _, _, _, _, _, _, _, _, _, _, _, _, _, _, _, _, _, _, _, _, _, _, _, _, _, _, _, _, _, _, _, _, _, _, _, b, n, c, rfl, hs, fun k55 hk55 => ?_⟩
  have s55 := Sub.upd (.cells zA.toArray tA (0, 0)) hk55
  have b55 : Bx (H14.upd k55 (.cells zA.toArray tA (0, 0))) k55 tA zA := Bx.new _ _ _ _
  have b56 : Bx ((H14.upd k55 (.cells zA.toArray tA (0, 0))).upd k55 (.cells (cellsV S.1 (stt S.1) r xx).toArray tA (0, 0))) k55 tA (cellsV S.1 (stt S.1) r xx) := Bx.new _ _ _ _
  have s56 : Sub H14 ((H14.upd k55 (.cells zA.toArray tA (0, 0))).upd k55 (.cells (cellsV S.1 (stt S.1) r xx).toArray tA (0, 0))) := s55.wr hk55
  refine ⟨hs.trans s55, _, b55.writes (cellsV S.1 (stt S.1) r xx) rfl, ?_⟩
  generalize (H14.upd k55 (.cells zA.toArray tA (0, 0))).upd k55 (.cells (cellsV S.1 (stt S.1) r xx).toArray tA (0, 0)) = H56 at b56 s56 ⊢
  have h2 := h1.mono s56
  refine ⟨_, _, _, _, _, _, _, _, _, _, _, _, _, _, _, _, _, _, _, _, _, _, _, _, _, _, _, _, _, _, _, _, _, _, _, _, _, b56.reads, obP k, obP k, _, wA h2.bx S.1 (stt S.1) r xx, obP k, obP k, ?_⟩
  have h3 := h2.put (t' := t) (x' := { x with s := S.1, st := stt S.1, ar := r, ax := xx }) (h2.p.wr rfl rfl rfl rfl rfl rfl rfl rfl rfl rfl rfl) rfl rfl
  generalize H56.upd k (.cells (cellsR t { x with s := S.1, st := stt S.1, ar := r, ax := xx }).toArray tTr (0, 0)) = H94 at h3 ⊢
  refine ⟨_, h3.bx.put (i := 10) (x := vI at') (by show 10 < 59; decide), ?_⟩
  have h4 := h3.put (t' := { t with A := S.1, at_ := at' }) (x' := { x with s := S.1, st := stt S.1, ar := r, ax := xx }) (h3.p.wr rfl rfl rfl rfl rfl rfl rfl rfl rfl rfl rfl) rfl rfl
  refine ⟨⟨b, n, c, S.2, rfl, hl.mono h4.sub, fun m hm => (s2 m hm).ok _, strip_bares s2⟩, F1, _, hF.trans st.fsub, h4, ⟨fun _ => hA0, fun e => ?_⟩⟩
  have : ((at' == 2 || at' == 4 || at' == 6) : Bool) = false := e
  simp at this
  omega
theorem agrees_okR {F H : PHeap} {k : Nat} {t : TS} {x : RX} (h : RcB F H k t x) : Triple Tryz.prog 35 #[.pointer (at0 k)] H fun v H' => v = .bool t.agrees ∧ H' = H := by
  refine rcAgrees.vc (at0 k) H _ ⟨obP k, obP k, _, h.bx.fld (i := 10) rfl, fun e => ⟨obP k, obP k, _, h.bx.fld (i := 10) rfl, fun e2 => ⟨obP k, obP k, _, h.bx.fld (i := 10) rfl, ?_, rfl⟩, fun e2 => ⟨?_, rfl⟩⟩, fun e => ⟨?_, rfl⟩⟩
  · unfold TS.agrees; rw [e, e2]; rfl
  · have e2' : (t.at_ == 4) = true := by simpa using e2
    unfold TS.agrees; rw [e, e2']; rfl
  · have e' : (t.at_ == 2) = true := by simpa using e
    unfold TS.agrees; rw [e']; rfl
theorem takes_okR {F H : PHeap} {k : Nat} {t : TS} {x : RX} {m : Msg} (h : RcB F H k t x) (hc : t.at_ = 1 ∨ t.at_ = 3 ∨ t.at_ = 5 ∨ t.at_ = 7) : Triple Tryz.prog 48 #[.pointer (at0 k), Rnd.vM m] H fun v H' => v = .bool (t.takes m) ∧ H' = H := by
  obtain ⟨y1, y2, y3, y4, y5, y6, y7, y8, y9, y10, ⟨ya, yb, yc, yl⟩, ⟨za, zb, zc, zl⟩, ⟨wa, wb, wc, wl⟩⟩ := m
  have han := h.p.an
  have hdef : t.takes (y1, y2, y3, y4, y5, y6, y7, y8, y9, y10, ⟨ya, yb, yc, yl⟩, ⟨za, zb, zc, zl⟩, ⟨wa, wb, wc, wl⟩) = (y4 == t.ballot && eqS y5 t.askN && (if t.at_ = 1 then y1 == 20 else if t.at_ = 3 then y1 == 21 else if t.at_ = 5 then y1 == 25 else y1 == 22 || (y1 == 19 && y10 == 8))) := rfl
  rw [hdef, ← han]
  refine rcTakes.vc (at0 k) y1 y2 y3 y4 y5 y6 y7 y8 y9 y10 ya yb yc za zb zc wa wb wc H _ ⟨H, Sub.refl _, obP k, obP k, _, h.bx.fld (i := 6) rfl, fun e1 => ⟨obP k, obP k, obK k 40, _, h.bx.fld (i := 44) rfl, fun e2 => ⟨?_, rfl⟩, fun e2 => ⟨obP k, obP k, _, h.bx.fld (i := 10) rfl, fun e3 => ⟨?_, rfl⟩, fun e3 => ⟨fun e4 => ⟨?_, rfl⟩, fun e4 => ⟨fun e5 => ⟨?_, rfl⟩, fun e5 => ⟨?_, rfl⟩⟩⟩⟩⟩, fun e1 => ⟨?_, rfl⟩⟩
  all_goals try (have e1' : y4 = t.ballot := by simpa using e1)
  · have e2' : eqS y5 x.am.2.2.2.2.1 = false := by simpa using e2
    rw [e2']; simp
  all_goals try (have e2' : eqS y5 x.am.2.2.2.2.1 = true := by simpa using e2)
  · have e3' : t.at_ = 1 := by simpa using e3
    rw [e2', if_pos e3', e1']; simp
  all_goals try (have e3' : ¬ t.at_ = 1 := by simpa using e3)
  · have e4' : t.at_ = 3 := by simpa using e4
    rw [e2', if_neg e3', if_pos e4', e1']; simp
  all_goals try (have e4' : ¬ t.at_ = 3 := by simpa using e4)
  · have e5' : t.at_ = 5 := by simpa using e5
    rw [e2', if_neg e3', if_neg e4', if_pos e5', e1']; simp
  · have e5' : ¬ t.at_ = 5 := by simpa using e5
    rw [e2', if_neg e3', if_neg e4', if_neg e5', e1']
    cases (y1 == 22) <;> cases (y1 == 19) <;> simp
  · have e1' : ¬ y4 = t.ballot := by simpa using e1
    rw [show (y4 == t.ballot) = false by simpa using e1']; rfl
theorem round_okR {H0 F H : PHeap} {k : Nat} {t : TS} {x : RX} {at' : Int} {m : Msg} {to wait : List Int} {oa ob : Option Addr} {n c q d : Nat} (hF : Sub H0 F) (h : RcB F H k t x) (ha : at' = 1 ∨ at' = 3 ∨ at' = 5 ∨ at' = 7)
    (r1 : RdL F iE 1 oa n to) (r2 : RdL F iE 1 ob q wait) (hn : n ≤ 256) (hm : OkM F m) :
    Triple Tryz.prog 27 #[.pointer (at0 k), vI at', Rnd.vM m, .slice oa n c, .slice ob q d] H (OutR H0 k (t.round at' (strip m) to wait)) := by
  have hl1 := r1.len
  obtain ⟨y1, y2, y3, y4, y5, y6, y7, y8, y9, y10, ⟨ya, yb, yc, yl⟩, ⟨za, zb, zc, zl⟩, ⟨wa, wb, wc, wl⟩⟩ := m
  let M : Int → Msg := fun u => (y1, y2, u, t.ballot, y5, y6, y7, y8, y9, y10, ⟨ya, yb, yc, yl⟩, ⟨za, zb, zc, zl⟩, ⟨wa, wb, wc, wl⟩)
  have hsend : ∀ l : List Int, sendL t.ballot (y1, y2, y3, y4, y5, y6, y7, y8, y9, y10, ⟨ya, yb, yc, yl⟩, ⟨za, zb, zc, zl⟩, ⟨wa, wb, wc, wl⟩) l = l.map M := fun l => rfl
  refine rcRound.vc (at0 k) at' y1 y2 y3 y4 y5 y6 y7 y8 y9 y10 ya yb yc za zb zc wa wb wc oa n c ob q d H _ ⟨obP k, obP k, _, h.bx.fld (i := 6) rfl, fun s H' => match s with | [.slice b mm e, .int _ i, v] => 0 ≤ i ∧ i ≤ n ∧ Sub H H' ∧ OwnL H' 52 mE 13 b mm e ((to.take i.toNat).map M) ∧ Off H b ∧ ∃ u, v = .agg (mE (M u)).toArray | _ => False, fun s _ => match s with | [_, .int _ i, _] => (n - i).toNat | _ => 0, ⟨by omega, by omega, Sub.refl _, Owns.nil _ _ 13, Off.none _, y3, rfl⟩, ?_⟩
  rintro b mm e i n35 n36 n37 n38 s39 n40 n41 n42 n43 n44 a45 k46 k47 a48 k49 k50 a51 k52 k53 H54 ⟨i0, i1, s54, ho, hoff, u, hu⟩
  simp only [Value.agg.injEq] at hu
  have hu' := congrArg Array.toList hu.symm
  simp [M, pairE, intE, strE, Sl.E] at hu'
  obtain ⟨rfl, rfl, rfl, rfl, rfl, rfl, rfl, rfl, rfl, rfl, ⟨rfl, rfl, rfl⟩, ⟨rfl, rfl, rfl⟩, rfl, rfl, rfl⟩ := hu'
  obtain ⟨i, rfl⟩ : ∃ j : Nat, i = j := ⟨i.toNat, by omega⟩
  rw [Int.toNat_natCast] at ho
  have hml := (ho.rd (E := mE) (sz := 13) (by omega) Rnd.mLen).len
  rw [List.length_map, List.length_take] at hml
  refine ⟨fun hi => ?_, fun hi => ?_⟩
  · have hi' : i < n := by simpa using hi
    have r54 := (r1.mono h.sub).mono s54
    obtain ⟨z, hz, hzr⟩ := r54.ex (i := (i : Int)) (by omega) (by omega)
    rw [Int.toNat_natCast] at hz
    rw [Rnd.wrapS (by omega) (by omega)]
    refine ⟨r54.ob (by omega) (by omega), z, hzr, fun k56 hk56 => ?_⟩
    refine append_one Rnd.tM (E := mE) (x := M z) hk56 Rnd.mLen ho rfl (Rnd.mOne _) (by simp [maxLen]; omega) (by omega) ?_
    intro b' e' H' how hf hfr _
    refine ⟨b', mm + 1, e', rfl, ⟨by omega, by omega, hf.sub s54 hoff, ?_, hfr.off s54 hoff, z, rfl⟩, ⟨by simp only; omega⟩⟩
    rw [show ((i : Int) + 1).toNat = i + 1 by omega, List.take_add_one, hz, List.map_append]
    exact how
  · have hi' : ¬ i < n := by simpa using hi
    rw [List.take_of_length_le (by omega)] at ho
    have st := Stay.grow h.sub s54
    have h54 := h.stay st
    have raF : RdL (grow F H H54) mE 13 b mm (to.map M) := rd_grow (ho.rd (E := mE) (sz := 13) (by omega) Rnd.mLen) hoff
    have hle := st.fsub
    generalize grow F H H54 = F2 at st h54 raF hle
    refine ⟨obP k, obP k, _, wM h54.bx (M u), obP k, obP k, ?_⟩
    have h62 := h54.put (t' := { t with askN := y5, askW := yl }) (x' := { x with am := M u }) ⟨h54.p.pn, h54.p.pnc, h54.p.ps, h54.p.nm, h54.p.nmc, h54.p.su, rfl, hm.who.mono hle⟩ rfl rfl
    have e62 : H54.upd k (.cells (cellsR t { x with am := M u }).toArray tTr (0, 0)) = H54.upd k (.cells (cellsR { t with askN := y5, askW := yl } { x with am := M u }).toArray tTr (0, 0)) := rfl
    rw [e62]
    generalize H54.upd k (.cells (cellsR { t with askN := y5, askW := yl } { x with am := M u }).toArray tTr (0, 0)) = H62 at h62 ⊢
    refine ⟨_, h62.bx.put (i := 10) (x := vI at') (by show 10 < 59; decide), obP k, obP k, obK k 0, ?_⟩
    have h63 := h62.put (t' := { t with askN := y5, askW := yl, at_ := at' }) (x' := { x with am := M u }) (h62.p.wr rfl rfl rfl rfl rfl rfl rfl rfl rfl rfl rfl) rfl rfl
    have e63 : H62.upd k (.cells ((cellsR { t with askN := y5, askW := yl } { x with am := M u }).set 10 (vI at')).toArray tTr (0, 0)) = H62.upd k (.cells (cellsR { t with askN := y5, askW := yl, at_ := at' } { x with am := M u }).toArray tTr (0, 0)) := rfl
    rw [e63]
    generalize H62.upd k (.cells (cellsR { t with askN := y5, askW := yl, at_ := at' } { x with am := M u }).toArray tTr (0, 0)) = H63 at h63 ⊢
    refine ⟨_, h63.bx.fld (i := 5) rfl, (Rnd.refNew_ok H63 t.p.r b ob mm e q d).mono ?_⟩
    rintro _ H66 ⟨rfl, hH⟩
    rw [hH]
    refine ⟨b, mm, e, ob, q, d, none, 0, 0, maxI t.p.r 0, rfl, obP k, obP k, _, wR h63.bx ⟨b, mm, e, ob, q, d, none, 0, 0⟩ (maxI t.p.r 0), ?_⟩
    have h77 := h63.put (t' := (t.round at' (strip (y1, y2, y3, y4, y5, y6, y7, y8, y9, y10, ⟨ya, yb, yc, yl⟩, ⟨za, zb, zc, zl⟩, ⟨wa, wb, wc, wl⟩)) to wait).1) (x' := { x with am := M u, rr := ⟨b, mm, e, ob, q, d, none, 0, 0⟩, rt := maxI t.p.r 0 }) (h63.p.wr rfl rfl rfl rfl rfl rfl rfl rfl rfl rfl rfl) rfl rfl
    have hokA : ∀ z ∈ to.map M, OkM F2 z := fun z hz => by
      obtain ⟨u, _, rfl⟩ := List.mem_map.1 hz
      exact ⟨hm.who.mono hle, hm.names.mono hle, hm.data.mono hle, hm.small⟩
    have hstr : (to.map M).map strip = (t.round at' (strip (y1, y2, y3, y4, y5, y6, y7, y8, y9, y10, ⟨ya, yb, yc, yl⟩, ⟨za, zb, zc, zl⟩, ⟨wa, wb, wc, wl⟩)) to wait).2 := by
      rw [← hsend, strip_send]; rfl
    refine ⟨⟨b, mm, e, _, rfl, raF.mono h77.sub, fun z hz => (hokA z hz).mono h77.sub, hstr⟩, F2, _, hF.trans hle, h77, ⟨fun e => ?_, fun _ _ => ⟨rfl, to.map M, ⟨raF, r2.mono hle, RdL.nil _ _ _, Nat.le_refl _⟩, hstr, hokA, fun z hz => by cases hz⟩⟩⟩
    have : ((at' == 2 || at' == 4 || at' == 6) : Bool) = true := e
    simp at this
    omega
theorem name_okR {H0 F H : PHeap} {k : Nat} {t : TS} {x : RX} (hF : Sub H0 F) (h : RcB F H k t x) (hp : t.p.ok = true) (hs : t.sus.length ≤ 256) :
    Triple Tryz.prog 78 #[.pointer (at0 k)] H (OutR H0 k t.name) := by
  have hnl := h.p.nm.len
  have hsl := h.p.su.len
  have hpl := h.p.ps.len
  refine rcName.vc (at0 k) H _ ⟨obP k, obP k, _, _, _, h.bx.fld (i := 56) rfl, fun e => ?_, fun e => ⟨obP k, obP k, _, _, _, h.bx.fld (i := 57) rfl, fun e2 => ?_, fun e2 => ?_⟩⟩
  · have e' : 0 < x.nm.n := by simpa using e
    obtain ⟨s, hs0, hsr⟩ := (h.p.nm.mono h.sub).ex (i := 0) (by omega) (by omega)
    have hne : t.names ≠ [] := fun e0 => by rw [e0] at hnl; simp at hnl; omega
    cases hnm : t.names with
    | nil => exact absurd hnm hne
    | cons z zs =>
      rw [hnm] at hs0
      have hz : z = s := by simpa using hs0
      subst hz
      have hdef : t.name = t.agree z (!t.ps.isEmpty) 2 := by unfold TS.name; rw [hnm]
      rw [hdef]
      have eb : decide ((x.ps.n : Int) > 0) = !t.ps.isEmpty := by
        rw [← hpl]
        cases t.ps <;> simp
      refine ⟨H, Sub.refl _, obP k, obP k, _, _, _, h.bx.fld (i := 56) rfl, (h.p.nm.mono h.sub).ob (by omega) (by omega), _, hsr, obP k, obP k, obK k 53, _, _, _, h.bx.fld (i := 55) rfl, ?_⟩
      rw [eb]
      exact (agree_okR hF h hp (.inl rfl)).mono fun v H' ho => outR_slice ho fun _ h => h
  · have e' : x.nm.n = 0 := by simp at e; omega
    have hnil : t.names = [] := List.length_eq_zero_iff.1 (by omega)
    have e2' : 0 < x.su.n := by simpa using e2
    have hdef : t.name = t.round 3 mJoin t.sus t.sus := by
      unfold TS.name
      rw [hnil]
      have : t.sus.isEmpty = false := by
        cases hss : t.sus with
        | nil => rw [hss] at hsl; simp at hsl; omega
        | cons _ _ => rfl
      simp [this]
    rw [hdef]
    refine ⟨H, Sub.refl _, obP k, obP k, _, _, _, h.bx.fld (i := 57) rfl, obP k, obP k, _, _, _, h.bx.fld (i := 57) rfl, (round_okR (at' := 3) (m := (7, 0, 0, 0, ⟨#[]⟩, 0, 0, 0, 0, 0, no3)) hF h (.inr (.inl rfl)) h.p.su h.p.su (by omega) (okM0 _ _ _ _ _ _ _ _ _ _ _)).mono fun v H' ho => outR_slice ho fun _ h => h⟩
  · have e' : x.nm.n = 0 := by simp at e; omega
    have hnil : t.names = [] := List.length_eq_zero_iff.1 (by omega)
    have e2' : x.su.n = 0 := by simp at e2; omega
    have hsnil : t.sus = [] := List.length_eq_zero_iff.1 (by omega)
    have hdef : t.name = (t.over, []) := by
      unfold TS.name
      rw [hnil, hsnil]; rfl
    rw [hdef]
    refine (over_outR hF h).mono ?_
    rintro _ H' ⟨rfl, ho⟩
    exact ⟨_, _, _, rfl, ho⟩
end Go.Cho
