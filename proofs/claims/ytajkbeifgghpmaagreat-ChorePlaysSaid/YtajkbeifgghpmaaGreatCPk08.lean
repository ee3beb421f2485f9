/- What is to be shown of each function, in its normal form.  · The document's agreement: how it begins. · The document's agreement: its steps. · The document's agreement: what comes, and time; what is small; and its comparison. · An agreement's lists are short, and what it asks has no lists. · Plain law of texts that rise. · The contracts of the document's texts: the order, one more, whether lists are the same. -/
import Derived.Test.YtajkbeifgghpmaaGreatProg
import Derived.Test.YtajkbeifgghpmaaGreatCPk07
set_option linter.unusedVariables false
set_option maxRecDepth 100000
namespace Go.Vc
open Go.Vx Go Go.Proofs.Tryz
def raSettle.cx : Cx := ⟨[10], [], [], []⟩
def raAll.cx : Cx := ⟨[], [(3, [5, 6], [3])], [], []⟩
def raFixM.cx : Cx := ⟨[2], [], [], []⟩
def raJudge.cx : Cx := ⟨[], [(19, [6], [1])], [], []⟩
def raTakes.cx : Cx := ⟨[], [], [], []⟩
def raTake.cx : Cx := ⟨[], [], [], []⟩
def raTick.cx : Cx := ⟨[], [], [], []⟩
theorem raSettle.vc (n1 n2 n3 n4 n5 n6 n7 : Int) (s8 : ByteArray) (b9 : Bool) (H : PHeap) (Q : Value -> PHeap -> Prop)
 (h : ∀ (k10 : Nat), H k10 = none -> ∃ H11, Writes (H.upd k10 (Obj.cells #[iw 0, iw 0, iw 0, iw 0, iw 0, iw 0, iw 0,
 .string ({ data := #[] } : ByteArray), .bool false, .bool false, iw 0, iw 0, sw none 0 0, sw none 0 0, sw none 0 0, iw 0, .bool false, .bool false, .bool false, iw 0, iw 0, iw 0, sw none 0 0, sw none 0 0, sw none 0 0]
 48)) H11 (at0 k10) [iw n1, iw n2, iw n3, iw n4, iw n5, iw n6, iw n7, .string s8, .bool b9, .bool false, iw 0, iw (IntKind.i64.wrap (2 * n7)), sw none 0 0, sw none 0 0,
 sw none 0 0, iw 0, .bool false, .bool false, .bool false, iw 0, iw 0, iw 0, sw none 0 0, sw none 0 0, sw none 0 0] /\ Triple prog 16 #[.agg #[iw n1, iw n2, iw n3, iw n4, iw n5, iw n6]] H11 fun v12 H13 => ∃ b14,
 v12 = .bool b14 /\ ((!b14) = true -> Ob (at0 k10 ≠ none) /\ ∃ H15, Writes H13 H15 (fldA (at0 k10) 10) [iw 2] /\
 ∃ n16 n17 n18 n19 n20 n21 n22 s23 b24 b25 n26 n27 a28 k29 k30 a31 k32 k33 a34 k35 k36 n37 b38 b39 b40 n41 n42 n43 a44 k45 k46 a47 k48 k49 a50 k51 k52, Reads H15 (at0 k10)
 [iw n16, iw n17, iw n18, iw n19, iw n20, iw n21, iw n22, .string s23, .bool b24, .bool b25, iw n26, iw n27, sw a28 k29 k30, sw a31 k32 k33, sw a34 k35 k36, iw n37, .bool b38, .bool b39, .bool b40, iw n41,
 iw n42, iw n43, sw a44 k45 k46, sw a47 k48 k49, sw a50 k51 k52] /\ Q (Value.tuple #[Value.agg #[iw n16, iw n17, iw n18, iw n19, iw n20, iw n21, iw n22, .string s23, .bool b24, .bool b25, iw n26, iw n27, sw a28 k29 k30,
 sw a31 k32 k33, sw a34 k35 k36, iw n37, .bool b38, .bool b39, .bool b40, iw n41, iw n42, iw n43, sw a44 k45 k46, sw a47 k48 k49, sw a50 k51 k52], sw none 0 0]) H15) /\ ((!b14) = false -> Triple prog 104
 #[.agg #[iw n1, iw n2, iw n3, iw n4, iw n5, iw n6], Value.agg #[iw 1, iw 0, iw 0, iw n7, .string s8, iw 0, iw 0, iw 0, iw 0, iw 0, sw none 0 0, sw none 0 0, sw none 0 0]] H13 fun v53 H54 => ∃ a55 k56 k57,
 v53 = sw a55 k56 k57 /\ ∃ H58, Vx.Sub H58 H54 /\ Triple prog 28 #[.agg #[iw n1, iw n2, iw n3, iw n4, iw n5, iw n6]] H54 fun v59 H60 => ∃ a61 k62 k63, v59 = sw a61 k62 k63 /\ Vx.Sub H58 H60 /\
 Triple prog 63 #[iw n6, sw a55 k56 k57, sw a61 k62 k63] H60 fun v64 H65 => ∃ a66 k67 k68 a69 k70 k71 a72 k73 k74 n75, v64 = .agg #[sw a66 k67 k68, sw a69 k70 k71, sw a72 k73 k74, iw n75] /\ Ob (at0 k10 ≠ none) /\
 ∃ H76, Writes H65 H76 (fldA (at0 k10) 12) [sw a66 k67 k68, sw a69 k70 k71, sw a72 k73 k74, iw n75] /\
 ∃ n77 n78 n79 n80 n81 n82 n83 s84 b85 b86 n87 n88 a89 k90 k91 a92 k93 k94 a95 k96 k97 n98 b99 b100 b101 n102 n103 n104 a105 k106 k107 a108 k109 k110 a111 k112 k113, Reads H76 (at0 k10)
 [iw n77, iw n78, iw n79, iw n80, iw n81, iw n82, iw n83, .string s84, .bool b85, .bool b86, iw n87, iw n88, sw a89 k90 k91, sw a92 k93 k94, sw a95 k96 k97, iw n98, .bool b99,
 .bool b100, .bool b101, iw n102, iw n103, iw n104, sw a105 k106 k107, sw a108 k109 k110, sw a111 k112 k113] /\ Q (Value.tuple #[Value.agg #[iw n77, iw n78, iw n79, iw n80, iw n81,
 iw n82, iw n83, .string s84, .bool b85, .bool b86, iw n87, iw n88, sw a89 k90 k91, sw a92 k93 k94, sw a95 k96 k97, iw n98, .bool b99, .bool b100, .bool b101, iw n102, iw n103, iw n104,
 sw a105 k106 k107, sw a108 k109 k110, sw a111 k112 k113], sw a55 k56 k57]) H76)) : Triple prog 64 ([.agg #[iw n1, iw n2, iw n3, iw n4, iw n5, iw n6], iw n7, .string s8, .bool b9]).toArray H Q :=
 Triple.of_vc raSettle.cx (by kernel_rfl) h
theorem raAll.vc (n1 n2 n3 n4 n5 n6 n7 n8 n9 n10 : Int) (s11 : ByteArray) (n12 n13 n14 n15 n16 : Int) (a17 : Option Addr) (k18 k19 : Nat) (a20 : Option Addr) (k21 k22 : Nat) (a23 : Option Addr) (k24 k25 : Nat) (H : PHeap) (Q : Value -> PHeap -> Prop)
 (h : ∃ (R26 : Rl) (M27 : Mu), R26 [sw none 0 0, iw 1, Value.agg #[iw n7, iw n8, iw n9, iw n10, .string s11, iw n12, iw n13, iw n14, iw n15, iw n16, sw a17 k18 k19, sw a20 k21 k22, sw a23 k24 k25]] H /\
 ∀ (a28 : Option Addr) (k29 k30 : Nat) (n31 n32 n33 n34 n35 : Int) (s36 : ByteArray) (n37 n38 n39 n40 n41 : Int) (a42 : Option Addr) (k43 k44 : Nat) (a45 : Option Addr) (k46 k47 : Nat)
 (a48 : Option Addr) (k49 k50 : Nat) (H51 : PHeap), R26 [sw a28 k29 k30, iw n31, Value.agg #[iw n32, iw n33, iw n34, iw n35, .string s36, iw n37, iw n38,
 iw n39, iw n40, iw n41, sw a42 k43 k44, sw a45 k46 k47, sw a48 k49 k50]] H51 -> (decide (n31 ≤ n1) = true -> ∀ (k52 : Nat), H51 k52 = none -> EvV prog (Builtin.append_ #[28, 28] 28 #[sw a28 k29 k30, sw (at0 k52) 1 1])
 (H51.upd k52 (Obj.cells #[iw n32, iw n33, iw n31, iw n35, .string s36, iw n37, iw n38, iw n39, iw n40, iw n41, sw a42 k43 k44, sw a45 k46 k47, sw a48 k49 k50] 52)) fun v53 H54 => ∃ a55 k56 k57, v53 = sw a55 k56 k57 /\
 R26 [sw a55 k56 k57, iw (IntKind.i64.wrap (n31 + 1)), Value.agg #[iw n32, iw n33, iw n31, iw n35, .string s36, iw n37, iw n38, iw n39, iw n40, iw n41, sw a42 k43 k44, sw a45 k46 k47, sw a48 k49 k50]] H54 /\ Less (M27
 [sw a55 k56 k57, iw (IntKind.i64.wrap (n31 + 1)), Value.agg #[iw n32, iw n33, iw n31, iw n35, .string s36, iw n37, iw n38, iw n39, iw n40, iw n41, sw a42 k43 k44, sw a45 k46 k47, sw a48 k49 k50]] H54) (M27
 [sw a28 k29 k30, iw n31, Value.agg #[iw n32, iw n33, iw n34, iw n35, .string s36, iw n37, iw n38, iw n39, iw n40, iw n41, sw a42 k43 k44, sw a45 k46 k47, sw a48 k49 k50]] H51)) /\
 (decide (n31 ≤ n1) = false -> Q (sw a28 k29 k30) H51)) : Triple prog 104 ([.agg #[iw n1, iw n2, iw n3, iw n4, iw n5, iw n6], Value.agg #[iw n7, iw n8, iw n9, iw n10, .string s11, iw n12, iw n13,
 iw n14, iw n15, iw n16, sw a17 k18 k19, sw a20 k21 k22, sw a23 k24 k25]]).toArray H Q := Triple.of_vc raAll.cx (by kernel_rfl) h
theorem raFixM.vc (n1 n2 n3 n4 n5 n6 n7 : Int) (s8 : ByteArray) (b9 b10 : Bool) (n11 n12 : Int) (a13 : Option Addr) (k14 k15 : Nat) (a16 : Option Addr) (k17 k18 : Nat) (a19 : Option Addr) (k20 k21 : Nat) (n22 : Int) (b23 b24 b25 : Bool) (n26 n27 n28 : Int) (a29 : Option Addr) (k30 k31 : Nat) (a32 : Option Addr) (k33 k34 : Nat) (a35 : Option Addr) (k36 k37 : Nat) (b38 : Bool) (n39 n40 n41 : Int) (H : PHeap) (Q : Value -> PHeap -> Prop)
 (h : ∀ (k42 : Nat), H k42 = none -> Ob (at0 k42 ≠ none) /\ ∃ H43, Writes (H.upd k42 (Obj.cells #[iw n1, iw n2, iw n3, iw n4, iw n5, iw n6, iw n7,
 .string s8, .bool b9, .bool b10, iw n11, iw n12, sw a13 k14 k15, sw a16 k17 k18, sw a19 k20 k21, iw n22, .bool b23, .bool b24, .bool b25, iw n26, iw n27, iw n28, sw a29 k30 k31, sw a32 k33 k34, sw a35 k36 k37] 48))
 H43 (fldA (at0 k42) 10) [iw 1] /\ Ob (at0 k42 ≠ none) /\ ∃ H44, Writes H43 H44 (fldA (at0 k42) 17) [.bool true] /\ Ob (at0 k42 ≠ none) /\ ∃ H45, Writes H44 H45 (fldA (at0 k42) 18) [.bool b38, iw n39, iw n40, iw n41] /\
 Ob (at0 k42 ≠ none) /\ ∃ n46, Reads H45 (fldA (at0 k42) 6) [iw n46] /\ Ob (at0 k42 ≠ none) /\ ∃ s47, Reads H45 (fldA (at0 k42) 7) [.string s47] /\ Ob (at0 k42 ≠ none) /\ ∃ n48, Reads H45 (fldA (at0 k42) 11) [iw n48] /\
 (b38 = true -> Ob (at0 k42 ≠ none) /\ ∃ n49 n50 n51 n52 n53 n54, Reads H45 (fldA (at0 k42) 0) [iw n49, iw n50, iw n51, iw n52, iw n53, iw n54] /\ Triple prog 104 #[Value.agg #[iw n49, iw n50, iw n51, iw n52, iw n53,
 iw n54], Value.agg #[iw 4, iw 0, iw 0, iw n46, .string s47, iw n39, iw n40, iw n48, iw n41, iw 1, sw none 0 0, sw none 0 0, sw none 0 0]] H45 fun v55 H56 => ∃ a57 k58 k59, v55 = sw a57 k58 k59 /\ ∃ H60,
 Vx.Sub H60 H56 /\ Ob (at0 k42 ≠ none) /\ Ob (fldA (at0 k42) 0 ≠ none) /\ ∃ n61, Reads H60 (fldA (fldA (at0 k42) 0) 5) [iw n61] /\ Ob (at0 k42 ≠ none) /\ ∃ n62 n63 n64 n65 n66 n67, Reads H60 (fldA (at0 k42) 0)
 [iw n62, iw n63, iw n64, iw n65, iw n66, iw n67] /\ Triple prog 28 #[Value.agg #[iw n62, iw n63, iw n64, iw n65, iw n66, iw n67]] H56 fun v68 H69 => ∃ a70 k71 k72, v68 = sw a70 k71 k72 /\ Vx.Sub H60 H69 /\
 Triple prog 63 #[iw n61, sw a57 k58 k59, sw a70 k71 k72] H69 fun v73 H74 => ∃ a75 k76 k77 a78 k79 k80 a81 k82 k83 n84, v73 = Value.agg #[sw a75 k76 k77, sw a78 k79 k80, sw a81 k82 k83, iw n84] /\ Ob (at0 k42 ≠ none) /\
 ∃ H85, Writes H74 H85 (fldA (at0 k42) 12) [sw a75 k76 k77, sw a78 k79 k80, sw a81 k82 k83, iw n84] /\ ∃ n86 n87 n88 n89 n90 n91 n92 s93 b94 b95 n96 n97 a98 k99 k100 a101 k102 k103 a104 k105 k106 n107 b108
 b109 b110 n111 n112 n113 a114 k115 k116 a117 k118 k119 a120 k121 k122, Reads H85 (at0 k42) [iw n86, iw n87, iw n88, iw n89, iw n90, iw n91, iw n92, .string s93, .bool b94, .bool b95, iw n96, iw n97, sw a98 k99 k100,
 sw a101 k102 k103, sw a104 k105 k106, iw n107, .bool b108, .bool b109, .bool b110, iw n111, iw n112, iw n113, sw a114 k115 k116, sw a117 k118 k119, sw a120 k121 k122] /\ Q (Value.tuple #[Value.agg
 #[iw n86, iw n87, iw n88, iw n89, iw n90, iw n91, iw n92, .string s93, .bool b94, .bool b95, iw n96, iw n97, sw a98 k99 k100, sw a101 k102 k103, sw a104 k105 k106, iw n107, .bool b108, .bool b109, .bool b110, iw n111,
 iw n112, iw n113, sw a114 k115 k116, sw a117 k118 k119, sw a120 k121 k122], sw a57 k58 k59]) H85) /\ (b38 = false -> Ob (at0 k42 ≠ none) /\ ∃ n123 n124 n125 n126 n127 n128, Reads H45 (fldA (at0 k42) 0)
 [iw n123, iw n124, iw n125, iw n126, iw n127, iw n128] /\ Triple prog 104 #[Value.agg #[iw n123, iw n124, iw n125, iw n126, iw n127, iw n128], Value.agg #[iw 4, iw 0, iw 0, iw n46, .string s47,
 iw 0, iw 0, iw n48, iw 0, iw 0, sw none 0 0, sw none 0 0, sw none 0 0]] H45 fun v129 H130 => ∃ a131 k132 k133, v129 = sw a131 k132 k133 /\ ∃ H134, Vx.Sub H134 H130 /\ Ob (at0 k42 ≠ none) /\
 Ob (fldA (at0 k42) 0 ≠ none) /\ ∃ n135, Reads H134 (fldA (fldA (at0 k42) 0) 5) [iw n135] /\ Ob (at0 k42 ≠ none) /\ ∃ n136 n137 n138 n139 n140 n141, Reads H134 (fldA (at0 k42) 0) [iw n136, iw n137, iw n138, iw n139,
 iw n140, iw n141] /\ Triple prog 28 #[Value.agg #[iw n136, iw n137, iw n138, iw n139, iw n140, iw n141]] H130 fun v142 H143 => ∃ a144 k145 k146, v142 = sw a144 k145 k146 /\ Vx.Sub H134 H143 /\
 Triple prog 63 #[iw n135, sw a131 k132 k133, sw a144 k145 k146] H143 fun v147 H148 => ∃ a149 k150 k151 a152 k153 k154 a155 k156 k157 n158, v147 = Value.agg #[sw a149 k150 k151, sw a152 k153 k154, sw a155 k156 k157,
 iw n158] /\ Ob (at0 k42 ≠ none) /\ ∃ H159, Writes H148 H159 (fldA (at0 k42) 12) [sw a149 k150 k151, sw a152 k153 k154, sw a155 k156 k157, iw n158] /\
 ∃ n160 n161 n162 n163 n164 n165 n166 s167 b168 b169 n170 n171 a172 k173 k174 a175 k176 k177 a178 k179 k180 n181 b182 b183 b184 n185 n186 n187 a188 k189 k190 a191 k192 k193 a194 k195 k196, Reads H159 (at0 k42)
 [iw n160, iw n161, iw n162, iw n163, iw n164, iw n165, iw n166, .string s167, .bool b168, .bool b169, iw n170, iw n171, sw a172 k173 k174, sw a175 k176 k177, sw a178 k179 k180, iw n181,
 .bool b182, .bool b183, .bool b184, iw n185, iw n186, iw n187, sw a188 k189 k190, sw a191 k192 k193, sw a194 k195 k196] /\ Q (Value.tuple #[Value.agg #[iw n160, iw n161, iw n162, iw n163, iw n164, iw n165,
 iw n166, .string s167, .bool b168, .bool b169, iw n170, iw n171, sw a172 k173 k174, sw a175 k176 k177, sw a178 k179 k180, iw n181, .bool b182, .bool b183, .bool b184, iw n185, iw n186, iw n187, sw a188 k189 k190,
 sw a191 k192 k193, sw a194 k195 k196], sw a131 k132 k133]) H159)) : Triple prog 108 ([Value.agg #[iw n1, iw n2, iw n3, iw n4, iw n5, iw n6, iw n7,
 .string s8, .bool b9, .bool b10, iw n11, iw n12, sw a13 k14 k15, sw a16 k17 k18, sw a19 k20 k21, iw n22, .bool b23, .bool b24, .bool b25, iw n26, iw n27, iw n28, sw a29 k30 k31, sw a32 k33 k34, sw a35 k36 k37],
 .agg #[.bool b38, iw n39, iw n40, iw n41]]).toArray H Q := Triple.of_vc raFixM.cx (by kernel_rfl) h
theorem raJudge.vc (n1 n2 n3 n4 n5 n6 n7 : Int) (s8 : ByteArray) (b9 b10 : Bool) (n11 n12 : Int) (a13 : Option Addr) (k14 k15 : Nat) (a16 : Option Addr) (k17 k18 : Nat) (a19 : Option Addr) (k20 k21 : Nat) (n22 : Int) (b23 b24 b25 : Bool) (n26 n27 n28 : Int) (a29 : Option Addr) (k30 k31 : Nat) (a32 : Option Addr) (k33 k34 : Nat) (a35 : Option Addr) (k36 k37 : Nat) (H : PHeap) (Q : Value -> PHeap -> Prop)
 (h : Triple prog 50 #[.agg #[sw a13 k14 k15, sw a16 k17 k18, sw a19 k20 k21, iw n22]] H fun v38 H39 => ∃ b40, v38 = .bool b40 /\ ((n11 == 0) = true -> Triple prog 107 #[.agg #[iw n1, iw n2, iw n3, iw n4, iw n5, iw n6],
 sw a19 k20 k21] H39 fun v41 H42 => ∃ b43 b44 b45 n46 n47 n48 n49 a50 k51 k52, v41 = Value.agg #[.bool b43, .bool b44, .bool b45, iw n46, iw n47, iw n48, iw n49, sw a50 k51 k52] /\ ((!b43) = true -> (b40 = true -> Q
 (Value.tuple #[Value.agg #[iw n1, iw n2, iw n3, iw n4, iw n5, iw n6, iw n7, .string s8, .bool b9, .bool b10, iw 2, iw n12, sw a13 k14 k15,
 sw a16 k17 k18, sw a19 k20 k21, iw n22, .bool b23, .bool b24, .bool b25, iw n26, iw n27, iw n28, sw a29 k30 k31, sw a32 k33 k34, sw a35 k36 k37], sw none 0 0]) H42) /\ (b40 = false -> Q (Value.tuple #[Value.agg
 #[iw n1, iw n2, iw n3, iw n4, iw n5, iw n6, iw n7, .string s8, .bool b9, .bool b10, iw n11, iw n12, sw a13 k14 k15, sw a16 k17 k18, sw a19 k20 k21, iw n22, .bool b23, .bool b24, .bool b25, iw n26,
 iw n27, iw n28, sw a29 k30 k31, sw a32 k33 k34, sw a35 k36 k37], sw none 0 0]) H42)) /\ ((!b43) = false -> ((bif !b44 then true else b9) = true -> Triple prog 108 #[Value.agg #[iw n1, iw n2, iw n3, iw n4, iw n5, iw n6,
 iw n7, .string s8, .bool b9, .bool b10, iw n11, iw n12, sw a13 k14 k15, sw a16 k17 k18, sw a19 k20 k21, iw n22, .bool b23, .bool b24, .bool b25, iw n26, iw n27, iw n28, sw a29 k30 k31, sw a32 k33 k34, sw a19 k20 k21],
 .agg #[.bool b45, iw n46, iw n47, iw n48]] H42 fun v53 H54 =>
 ∃ n55 n56 n57 n58 n59 n60 n61 s62 b63 b64 n65 n66 a67 k68 k69 a70 k71 k72 a73 k74 k75 n76 b77 b78 b79 n80 n81 n82 a83 k84 k85 a86 k87 k88 a89 k90 k91 a92 k93 k94, v53 = Value.tuple #[Value.agg
 #[iw n55, iw n56, iw n57, iw n58, iw n59, iw n60, iw n61, .string s62, .bool b63, .bool b64, iw n65, iw n66, sw a67 k68 k69, sw a70 k71 k72, sw a73 k74 k75, iw n76, .bool b77, .bool b78, .bool b79,
 iw n80, iw n81, iw n82, sw a83 k84 k85, sw a86 k87 k88, sw a89 k90 k91], sw a92 k93 k94] /\ Q (Value.tuple #[Value.agg #[iw n55, iw n56, iw n57, iw n58, iw n59,
 iw n60, iw n61, .string s62, .bool b63, .bool b64, iw n65, iw n66, sw a67 k68 k69, sw a70 k71 k72, sw a73 k74 k75, iw n76, .bool b77, .bool b78, .bool b79,
 iw n80, iw n81, iw n82, sw a83 k84 k85, sw a86 k87 k88, sw a89 k90 k91], sw a92 k93 k94]) H54) /\ ((bif !b44 then true else b9) = false -> Q (Value.tuple #[Value.agg #[iw n1, iw n2, iw n3, iw n4, iw n5, iw n6,
 iw n7, .string s8, .bool b9, .bool b10, iw 2, iw n12, sw a13 k14 k15, sw a16 k17 k18, sw a19 k20 k21, iw n22, .bool true, .bool b24, .bool b45, iw n46, iw n47, iw n48, sw a50 k51 k52, sw a32 k33 k34, sw a19 k20 k21],
 sw none 0 0]) H42))) /\ ((n11 == 0) = false -> ∃ (R95 : Rl) (M96 : Mu), R95 [iw 0, Value.agg #[iw n1, iw n2, iw n3, iw n4, iw n5, iw n6,
 iw n7, .string s8, .bool b9, .bool b10, iw n11, iw n12, sw a13 k14 k15, sw a16 k17 k18, sw a19 k20 k21, iw n22, .bool b23, .bool b24, .bool b25, iw n26, iw n27, iw n28, sw none 0 0, sw none 0 0, sw a35 k36 k37]] H39 /\
 ∀ (n97 n98 n99 n100 n101 n102 n103 n104 : Int) (s105 : ByteArray) (b106 b107 : Bool) (n108 n109 : Int) (a110 : Option Addr) (k111 k112 : Nat) (a113 : Option Addr) (k114 k115 : Nat)
 (a116 : Option Addr) (k117 k118 : Nat) (n119 : Int) (b120 b121 b122 : Bool) (n123 n124 n125 : Int) (a126 : Option Addr) (k127 k128 : Nat) (a129 : Option Addr) (k130 k131 : Nat)
 (a132 : Option Addr) (k133 k134 : Nat) (H135 : PHeap), R95 [iw n97, Value.agg #[iw n98, iw n99, iw n100, iw n101, iw n102, iw n103, iw n104, .string s105, .bool b106, .bool b107, iw n108, iw n109, sw a110 k111 k112,
 sw a113 k114 k115, sw a116 k117 k118, iw n119, .bool b120, .bool b121, .bool b122, iw n123, iw n124, iw n125, sw a126 k127 k128, sw a129 k130 k131, sw a132 k133 k134]] H135 -> (decide (n97 < (k117 : Int)) = true ->
 Ob (a116 ≠ none /\ 0 ≤ n97 /\ n97 < (k117 : Int)) /\ ∃ n136 n137 n138 n139 s140 n141 n142 n143 n144 n145 a146 k147 k148 a149 k150 k151 a152 k153 k154, Reads H135 (elemA a116 n97 13)
 [iw n136, iw n137, iw n138, iw n139, .string s140, iw n141, iw n142, iw n143, iw n144, iw n145, sw a146 k147 k148, sw a149 k150 k151, sw a152 k153 k154] /\ ((n136 == 17) = true -> ∀ (k155 : Nat), H135 k155 = none ->
 EvV prog (Builtin.append_ #[42, 42] 42 #[sw a129 k130 k131, sw (at0 k155) 1 1]) (H135.upd k155 (Obj.cells #[iw n137] 3)) fun v156 H157 => ∃ a158 k159 k160, v156 = sw a158 k159 k160 /\ ∀ (k161 : Nat),
 H157 k161 = none -> Triple prog 109 #[sw (at0 k161) 1 1, .agg #[.bool b122, iw n123, iw n124, iw n125]] (H157.upd k161 (Obj.cells #[iw n136, iw n137, iw n138, iw n139, .string s140,
 iw n141, iw n142, iw n143, iw n144, iw n145, sw a146 k147 k148, sw a149 k150 k151, sw a152 k153 k154] 52)) fun v162 H163 => ∃ a164 k165 k166, v162 = sw a164 k165 k166 /\
 EvV prog (Builtin.append_ #[42, 42] 42 #[sw a126 k127 k128, sw a164 k165 k166]) H163 fun v167 H168 => ∃ a169 k170 k171, v167 = sw a169 k170 k171 /\ R95 [iw (IntKind.i64.wrap (n97 + 1)), Value.agg
 #[iw n98, iw n99, iw n100, iw n101, iw n102, iw n103, iw n104, .string s105, .bool b106, .bool b107, iw n108, iw n109, sw a110 k111 k112, sw a113 k114 k115,
 sw a116 k117 k118, iw n119, .bool b120, .bool b121, .bool b122, iw n123, iw n124, iw n125, sw a169 k170 k171, sw a158 k159 k160, sw a132 k133 k134]] H168 /\ Less (M96 [iw (IntKind.i64.wrap (n97 + 1)), Value.agg
 #[iw n98, iw n99, iw n100, iw n101, iw n102, iw n103, iw n104, .string s105, .bool b106, .bool b107, iw n108, iw n109, sw a110 k111 k112, sw a113 k114 k115,
 sw a116 k117 k118, iw n119, .bool b120, .bool b121, .bool b122, iw n123, iw n124, iw n125, sw a169 k170 k171, sw a158 k159 k160, sw a132 k133 k134]] H168) (M96 [iw n97, Value.agg #[iw n98, iw n99, iw n100, iw n101,
 iw n102, iw n103, iw n104, .string s105, .bool b106, .bool b107, iw n108, iw n109, sw a110 k111 k112, sw a113 k114 k115, sw a116 k117 k118, iw n119, .bool b120, .bool b121, .bool b122,
 iw n123, iw n124, iw n125, sw a126 k127 k128, sw a129 k130 k131, sw a132 k133 k134]] H135)) /\ ((n136 == 17) = false -> R95 [iw (IntKind.i64.wrap (n97 + 1)), Value.agg #[iw n98, iw n99, iw n100, iw n101, iw n102,
 iw n103, iw n104, .string s105, .bool b106, .bool b107, iw n108, iw n109, sw a110 k111 k112, sw a113 k114 k115, sw a116 k117 k118, iw n119, .bool b120,
 .bool b121, .bool b122, iw n123, iw n124, iw n125, sw a126 k127 k128, sw a129 k130 k131, sw a132 k133 k134]] H135 /\ Less (M96 [iw (IntKind.i64.wrap (n97 + 1)), Value.agg #[iw n98, iw n99, iw n100, iw n101, iw n102,
 iw n103, iw n104, .string s105, .bool b106, .bool b107, iw n108, iw n109, sw a110 k111 k112, sw a113 k114 k115, sw a116 k117 k118, iw n119, .bool b120,
 .bool b121, .bool b122, iw n123, iw n124, iw n125, sw a126 k127 k128, sw a129 k130 k131, sw a132 k133 k134]] H135) (M96 [iw n97, Value.agg #[iw n98, iw n99, iw n100, iw n101, iw n102,
 iw n103, iw n104, .string s105, .bool b106, .bool b107, iw n108, iw n109, sw a110 k111 k112, sw a113 k114 k115, sw a116 k117 k118, iw n119, .bool b120,
 .bool b121, .bool b122, iw n123, iw n124, iw n125, sw a126 k127 k128, sw a129 k130 k131, sw a132 k133 k134]] H135))) /\ (decide (n97 < (k117 : Int)) = false ->
 ((bif bif b107 then decide ((k127 : Int) ≥ n101) else decide ((k130 : Int) ≥ n101) then true else b40) = true -> Q (Value.tuple #[Value.agg #[iw n98, iw n99, iw n100, iw n101, iw n102,
 iw n103, iw n104, .string s105, .bool b106, .bool b107, iw 2, iw n109, sw a110 k111 k112, sw a113 k114 k115, sw a116 k117 k118, iw n119,
 .bool (bif b107 then decide ((k127 : Int) ≥ n101) else decide ((k130 : Int) ≥ n101)), .bool b121, .bool b122, iw n123, iw n124, iw n125, sw a126 k127 k128, sw a129 k130 k131, sw a132 k133 k134], sw none 0 0]) H135) /\
 ((bif bif b107 then decide ((k127 : Int) ≥ n101) else decide ((k130 : Int) ≥ n101) then true else b40) = false -> Q (Value.tuple #[Value.agg #[iw n98, iw n99, iw n100, iw n101, iw n102,
 iw n103, iw n104, .string s105, .bool b106, .bool b107, iw n108, iw n109, sw a110 k111 k112, sw a113 k114 k115, sw a116 k117 k118, iw n119, .bool b120, .bool b121, .bool b122,
 iw n123, iw n124, iw n125, sw a126 k127 k128, sw a129 k130 k131, sw a132 k133 k134], sw none 0 0]) H135)))) : Triple prog 73 ([Value.agg #[iw n1, iw n2, iw n3, iw n4, iw n5, iw n6, iw n7,
 .string s8, .bool b9, .bool b10, iw n11, iw n12, sw a13 k14 k15, sw a16 k17 k18, sw a19 k20 k21, iw n22, .bool b23, .bool b24, .bool b25, iw n26, iw n27, iw n28, sw a29 k30 k31,
 sw a32 k33 k34, sw a35 k36 k37]]).toArray H Q := Triple.of_vc raJudge.cx (by kernel_rfl) h
theorem raTakes.vc (n1 n2 n3 n4 n5 n6 n7 : Int) (s8 : ByteArray) (b9 b10 : Bool) (n11 n12 : Int) (a13 : Option Addr) (k14 k15 : Nat) (a16 : Option Addr) (k17 k18 : Nat) (a19 : Option Addr) (k20 k21 : Nat) (n22 : Int) (b23 b24 b25 : Bool) (n26 n27 n28 : Int) (a29 : Option Addr) (k30 k31 : Nat) (a32 : Option Addr) (k33 k34 : Nat) (a35 : Option Addr) (k36 k37 : Nat) (n38 n39 n40 n41 : Int) (s42 : ByteArray) (n43 n44 n45 n46 n47 : Int) (a48 : Option Addr) (k49 k50 : Nat) (a51 : Option Addr) (k52 k53 : Nat) (a54 : Option Addr) (k55 k56 : Nat) (H : PHeap) (Q : Value -> PHeap -> Prop)
 (h : ((bif n11 == 2 then true else bif n41 != n7 then true else !eqS s42 s8) = true -> Q (.bool false) H) /\ ((bif n11 == 2 then true else bif n41 != n7 then true else !eqS s42 s8) = false ->
 ((n11 == 0) = true -> Q (.bool (n38 == 14)) H) /\ ((n11 == 0) = false -> ((n45 != n12) = true -> Q (.bool false) H) /\ ((n45 != n12) = false -> ((n38 == 16) = true -> Q (.bool (n47 == 4)) H) /\ ((n38 == 16) = false ->
 (b25 = true -> Q (Value.bool (bif n38 == 17 then bif n47 == 2 then bif n43 == n26 then n44 == n27 else false else bif n47 == 3 then bif n43 == n26 then n44 == n27 else false else false else false)) H) /\
 (b25 = false -> Q (.bool (bif n38 == 17 then n47 == 4 else false)) H)))))) : Triple prog 83 ([Value.agg #[iw n1, iw n2, iw n3, iw n4, iw n5, iw n6, iw n7,
 .string s8, .bool b9, .bool b10, iw n11, iw n12, sw a13 k14 k15, sw a16 k17 k18, sw a19 k20 k21, iw n22, .bool b23, .bool b24, .bool b25, iw n26, iw n27, iw n28, sw a29 k30 k31, sw a32 k33 k34, sw a35 k36 k37],
 Value.agg #[iw n38, iw n39, iw n40, iw n41, .string s42, iw n43, iw n44, iw n45, iw n46, iw n47, sw a48 k49 k50, sw a51 k52 k53, sw a54 k55 k56]]).toArray H Q := Triple.of_vc raTakes.cx (by kernel_rfl) h
theorem raTake.vc (n1 n2 n3 n4 n5 n6 n7 : Int) (s8 : ByteArray) (b9 b10 : Bool) (n11 n12 : Int) (a13 : Option Addr) (k14 k15 : Nat) (a16 : Option Addr) (k17 k18 : Nat) (a19 : Option Addr) (k20 k21 : Nat) (n22 : Int) (b23 b24 b25 : Bool) (n26 n27 n28 : Int) (a29 : Option Addr) (k30 k31 : Nat) (a32 : Option Addr) (k33 k34 : Nat) (a35 : Option Addr) (k36 k37 : Nat) (n38 n39 n40 n41 : Int) (s42 : ByteArray) (n43 n44 n45 n46 n47 : Int) (a48 : Option Addr) (k49 k50 : Nat) (a51 : Option Addr) (k52 k53 : Nat) (a54 : Option Addr) (k55 k56 : Nat) (H : PHeap) (Q : Value -> PHeap -> Prop)
 (h : Triple prog 83 #[Value.agg #[iw n1, iw n2, iw n3, iw n4, iw n5, iw n6, iw n7, .string s8, .bool b9, .bool b10, iw n11, iw n12, sw a13 k14 k15, sw a16 k17 k18, sw a19 k20 k21,
 iw n22, .bool b23, .bool b24, .bool b25, iw n26, iw n27, iw n28, sw a29 k30 k31, sw a32 k33 k34, sw a35 k36 k37], Value.agg #[iw n38, iw n39, iw n40, iw n41, .string s42, iw n43, iw n44,
 iw n45, iw n46, iw n47, sw a48 k49 k50, sw a51 k52 k53, sw a54 k55 k56]] H fun v57 H58 => ∃ b59, v57 = .bool b59 /\ ((!b59) = true -> Q (Value.tuple #[Value.agg #[iw n1, iw n2, iw n3, iw n4, iw n5, iw n6,
 iw n7, .string s8, .bool b9, .bool b10, iw n11, iw n12, sw a13 k14 k15, sw a16 k17 k18, sw a19 k20 k21, iw n22, .bool b23, .bool b24, .bool b25, iw n26, iw n27, iw n28, sw a29 k30 k31, sw a32 k33 k34, sw a35 k36 k37],
 sw none 0 0]) H58) /\ ((!b59) = false -> Triple prog 49 #[.agg #[sw a13 k14 k15, sw a16 k17 k18, sw a19 k20 k21, iw n22], Value.agg #[iw n38, iw n39, iw n40, iw n41, .string s42, iw n43, iw n44,
 iw n45, iw n46, iw n47, sw a48 k49 k50, sw a51 k52 k53, sw a54 k55 k56]] H58 fun v60 H61 => ∃ a62 k63 k64 a65 k66 k67 a68 k69 k70 n71 b72,
 v60 = .tuple #[.agg #[sw a62 k63 k64, sw a65 k66 k67, sw a68 k69 k70, iw n71], .bool b72] /\ ((!b72) = false -> Triple prog 50 #[.agg #[sw a62 k63 k64, sw a65 k66 k67, sw a68 k69 k70, iw n71]] H61 fun v73 H74 => ∃ b75,
 v73 = .bool b75 /\ ((!b75) = true -> Q (Value.tuple #[Value.agg #[iw n1, iw n2, iw n3, iw n4, iw n5, iw n6, iw n7, .string s8, .bool b9, .bool b10, iw n11, iw n12, sw a62 k63 k64,
 sw a65 k66 k67, sw a68 k69 k70, iw n71, .bool b23, .bool b24, .bool b25, iw n26, iw n27, iw n28, sw a29 k30 k31, sw a32 k33 k34, sw a35 k36 k37], sw none 0 0]) H74) /\ ((!b75) = false -> Triple prog 73 #[Value.agg
 #[iw n1, iw n2, iw n3, iw n4, iw n5, iw n6, iw n7, .string s8, .bool b9, .bool b10, iw n11, iw n12, sw a62 k63 k64, sw a65 k66 k67, sw a68 k69 k70, iw n71, .bool b23, .bool b24, .bool b25, iw n26,
 iw n27, iw n28, sw a29 k30 k31, sw a32 k33 k34, sw a35 k36 k37]] H74 fun v76 H77 =>
 ∃ n78 n79 n80 n81 n82 n83 n84 s85 b86 b87 n88 n89 a90 k91 k92 a93 k94 k95 a96 k97 k98 n99 b100 b101 b102 n103 n104 n105 a106 k107 k108 a109 k110 k111 a112 k113 k114 a115 k116 k117, v76 = Value.tuple #[Value.agg
 #[iw n78, iw n79, iw n80, iw n81, iw n82, iw n83, iw n84, .string s85, .bool b86, .bool b87, iw n88, iw n89, sw a90 k91 k92, sw a93 k94 k95, sw a96 k97 k98, iw n99, .bool b100,
 .bool b101, .bool b102, iw n103, iw n104, iw n105, sw a106 k107 k108, sw a109 k110 k111, sw a112 k113 k114], sw a115 k116 k117] /\ Q (Value.tuple #[Value.agg #[iw n78, iw n79, iw n80, iw n81, iw n82,
 iw n83, iw n84, .string s85, .bool b86, .bool b87, iw n88, iw n89, sw a90 k91 k92, sw a93 k94 k95, sw a96 k97 k98, iw n99, .bool b100, .bool b101, .bool b102, iw n103, iw n104, iw n105, sw a106 k107 k108,
 sw a109 k110 k111, sw a112 k113 k114], sw a115 k116 k117]) H77)) /\ ((!b72) = !false -> Q (Value.tuple #[Value.agg #[iw n1, iw n2, iw n3, iw n4, iw n5, iw n6,
 iw n7, .string s8, .bool b9, .bool b10, iw n11, iw n12, sw a62 k63 k64, sw a65 k66 k67, sw a68 k69 k70, iw n71, .bool b23, .bool b24, .bool b25, iw n26, iw n27, iw n28, sw a29 k30 k31, sw a32 k33 k34, sw a35 k36 k37],
 sw none 0 0]) H61))) : Triple prog 46 ([Value.agg #[iw n1, iw n2, iw n3, iw n4, iw n5, iw n6, iw n7, .string s8, .bool b9, .bool b10, iw n11, iw n12, sw a13 k14 k15, sw a16 k17 k18, sw a19 k20 k21,
 iw n22, .bool b23, .bool b24, .bool b25, iw n26, iw n27, iw n28, sw a29 k30 k31, sw a32 k33 k34, sw a35 k36 k37], Value.agg #[iw n38, iw n39, iw n40, iw n41, .string s42, iw n43, iw n44,
 iw n45, iw n46, iw n47, sw a48 k49 k50, sw a51 k52 k53, sw a54 k55 k56]]).toArray H Q := Triple.of_vc raTake.cx (by kernel_rfl) h
theorem raTick.vc (n1 n2 n3 n4 n5 n6 n7 : Int) (s8 : ByteArray) (b9 b10 : Bool) (n11 n12 : Int) (a13 : Option Addr) (k14 k15 : Nat) (a16 : Option Addr) (k17 k18 : Nat) (a19 : Option Addr) (k20 k21 : Nat) (n22 : Int) (b23 b24 b25 : Bool) (n26 n27 n28 : Int) (a29 : Option Addr) (k30 k31 : Nat) (a32 : Option Addr) (k33 k34 : Nat) (a35 : Option Addr) (k36 k37 : Nat) (H : PHeap) (Q : Value -> PHeap -> Prop)
 (h : ((n11 == 2) = true -> Q (Value.tuple #[Value.agg #[iw n1, iw n2, iw n3, iw n4, iw n5, iw n6, iw n7, .string s8, .bool b9, .bool b10, iw n11, iw n12, sw a13 k14 k15, sw a16 k17 k18, sw a19 k20 k21,
 iw n22, .bool b23, .bool b24, .bool b25, iw n26, iw n27, iw n28, sw a29 k30 k31, sw a32 k33 k34, sw a35 k36 k37], sw none 0 0]) H) /\ ((n11 == 2) = false -> Triple prog 73 #[Value.agg
 #[iw n1, iw n2, iw n3, iw n4, iw n5, iw n6, iw n7, .string s8, .bool b9, .bool b10, iw n11, iw n12, sw a13 k14 k15, sw a16 k17 k18, sw a19 k20 k21,
 iw n22, .bool b23, .bool b24, .bool b25, iw n26, iw n27, iw n28, sw a29 k30 k31, sw a32 k33 k34, sw a35 k36 k37]] H fun v38 H39 =>
 ∃ n40 n41 n42 n43 n44 n45 n46 s47 b48 b49 n50 n51 a52 k53 k54 a55 k56 k57 a58 k59 k60 n61 b62 b63 b64 n65 n66 n67 a68 k69 k70 a71 k72 k73 a74 k75 k76 a77 k78 k79, v38 = Value.tuple #[Value.agg
 #[iw n40, iw n41, iw n42, iw n43, iw n44, iw n45, iw n46, .string s47, .bool b48, .bool b49, iw n50, iw n51, sw a52 k53 k54, sw a55 k56 k57,
 sw a58 k59 k60, iw n61, .bool b62, .bool b63, .bool b64, iw n65, iw n66, iw n67, sw a68 k69 k70, sw a71 k72 k73, sw a74 k75 k76], sw a77 k78 k79] /\ ((n50 != n11) = true -> Q (Value.tuple #[Value.agg
 #[iw n40, iw n41, iw n42, iw n43, iw n44, iw n45, iw n46, .string s47, .bool b48, .bool b49, iw n50, iw n51, sw a52 k53 k54, sw a55 k56 k57, sw a58 k59 k60, iw n61, .bool b62, .bool b63, .bool b64, iw n65,
 iw n66, iw n67, sw a68 k69 k70, sw a71 k72 k73, sw a74 k75 k76], sw a77 k78 k79]) H39) /\ ((n50 != n11) = false -> Triple prog 39 #[.agg #[sw a52 k53 k54, sw a55 k56 k57, sw a58 k59 k60, iw n61]] H39 fun v80 H81 =>
 ∃ a82 k83 k84 a85 k86 k87 a88 k89 k90 n91 a92 k93 k94 b95, v80 = .tuple #[.agg #[sw a82 k83 k84, sw a85 k86 k87, sw a88 k89 k90, iw n91], sw a92 k93 k94, .bool b95] /\ (b95 = true -> Q (Value.tuple #[Value.agg
 #[iw n40, iw n41, iw n42, iw n43, iw n44, iw n45, iw n46, .string s47, .bool b48, .bool b49, iw 2, iw n51, sw a82 k83 k84, sw a85 k86 k87, sw a88 k89 k90, iw n91, .bool b62, .bool b63, .bool b64, iw n65,
 iw n66, iw n67, sw a68 k69 k70, sw a71 k72 k73, sw a74 k75 k76], sw none 0 0]) H81) /\ (b95 = false -> Q (Value.tuple #[Value.agg #[iw n40, iw n41, iw n42, iw n43, iw n44, iw n45,
 iw n46, .string s47, .bool b48, .bool b49, iw n50, iw n51, sw a82 k83 k84, sw a85 k86 k87, sw a88 k89 k90, iw n91, .bool b62, .bool b63, .bool b64, iw n65,
 iw n66, iw n67, sw a68 k69 k70, sw a71 k72 k73, sw a74 k75 k76], sw a92 k93 k94]) H81)))) : Triple prog 36 ([Value.agg #[iw n1, iw n2, iw n3, iw n4, iw n5, iw n6, iw n7,
 .string s8, .bool b9, .bool b10, iw n11, iw n12, sw a13 k14 k15, sw a16 k17 k18, sw a19 k20 k21, iw n22, .bool b23, .bool b24, .bool b25, iw n26, iw n27, iw n28, sw a29 k30 k31,
 sw a32 k33 k34, sw a35 k36 k37]]).toArray H Q := Triple.of_vc raTick.cx (by kernel_rfl) h
end Go.Vc
namespace Go.Agr
open Go.Vx Go.Vc Go.Proofs Go.Pln Go.Stl
open Go.Rnd (takesG insG froms againG RdR RV OkM AscG)
theorem raAll_ok {H : PHeap} {p : Plan} {b : Int} {nm : ByteArray} {m : Msg} (hp : p.ok = true) (hb : m.2.2.2.1 = b) (hnm : m.2.2.2.2.1 = nm) :
    Triple Tryz.prog 104 #[p.v, Rnd.vM m] H fun v H' => ∃ a n c, v = .slice a n c ∧ OwnL H' 52 mE 13 a n c (askAll p b nm m) ∧ Sub H H' ∧ Off H a := by
  have pok := Plan.ok_iff.1 hp
  have h1 := pok.n1
  have h2 := pok.n2
  obtain ⟨y1, y2, y3, y4, y5, y6, y7, y8, y9, y10, ⟨ya, yb, yc, yl⟩, ⟨za, zb, zc, zl⟩, ⟨wa, wb, wc, wl⟩⟩ := m
  have hb' : y4 = b := hb
  have hnm' : y5 = nm := hnm
  rw [← hb', ← hnm']
  let M : Int → Msg := fun t => (y1, y2, t, y4, y5, y6, y7, y8, y9, y10, ⟨ya, yb, yc, yl⟩, ⟨za, zb, zc, zl⟩, ⟨wa, wb, wc, wl⟩)
  refine raAll.vc p.n p.t p.l p.w p.s p.r y1 y2 y3 y4 y5 y6 y7 y8 y9 y10 ya yb yc za zb zc wa wb wc H _ ⟨fun t H' => match t with | [.slice b m q, .int _ i, v] => 1 ≤ i ∧ i ≤ p.n + 1 ∧ (∃ t, v = Rnd.vM (M t)) ∧ OwnL H' 52 mE 13 b m q (toAll y4 y5 (M y3) (idsN (i.toNat - 1))) ∧ Sub H H' ∧ Off H b | _ => False, fun t _ => match t with | [_, .int _ i, _] => (p.n + 1 - i).toNat | _ => 0, ⟨by omega, by omega, ⟨y3, rfl⟩, Owns.nil _ _ 13, Sub.refl _, Off.none _⟩, ?_⟩
  rintro b m q i n32 n33 n34 n35 s36 n37 n38 n39 n40 n41 a42 k43 k44 a45 k46 k47 a48 k49 k50 H9 ⟨i0, i1, ⟨t, ht⟩, ho, hs, hoff⟩
  simp only [Value.agg.injEq] at ht
  have ht' := congrArg Array.toList ht
  simp [M, pairE, intE, strE, Sl.E] at ht'
  obtain ⟨rfl, rfl, rfl, rfl, rfl, rfl, rfl, rfl, rfl, rfl, ⟨rfl, rfl, rfl⟩, ⟨rfl, rfl, rfl⟩, rfl, rfl, rfl⟩ := ht'
  obtain ⟨i, rfl⟩ : ∃ j : Nat, i = (j : Int) + 1 := ⟨i.toNat - 1, by omega⟩
  rw [show ((i : Int) + 1).toNat - 1 = i by omega] at ho
  refine ⟨fun hi k10 hk10 => ?_, fun hi => ?_⟩
  · have hi' : (i : Int) + 1 ≤ p.n := by simpa using hi
    have hml := (ho.rd (E := mE) (sz := 13) (by omega) Rnd.mLen).len
    rw [toAll_len, idsN_len] at hml
    rw [Rnd.wrapS (i := (i : Int) + 1) (by omega) (by omega)]
    refine append_one Rnd.tM (E := mE) (x := M ((i : Int) + 1)) hk10 Rnd.mLen ho rfl (Rnd.mOne _) (by simp [maxLen]; omega) (by omega) ?_
    intro b' q' H' how hf hfr _
    refine ⟨b', m + 1, q', rfl, ⟨by omega, by omega, ⟨(i : Int) + 1, rfl⟩, ?_, hf.sub hs hoff, hfr.off hs hoff⟩, ⟨by simp only; omega⟩⟩
    rw [show ((i : Int) + 1 + 1).toNat - 1 = i + 1 by omega, idsN_succ, toAll_snoc]; exact how
  · have hi' : ¬ (i : Int) + 1 ≤ p.n := by simpa using hi
    rw [show i = p.n.toNat by omega] at ho
    exact ⟨b, m, q, rfl, ho, hs, hoff⟩
/-- The state's number. -/
def stt (s : St) : Int := if s.over then 2 else if s.fixed then 1 else 0
abbrev cellsV (s : St) (st : Int) (r : RV) (x : AV) : List Value :=
  [vI s.p.n, vI s.p.t, vI s.p.l, vI s.p.w, vI s.p.s, vI s.p.r, vI s.ballot, .string s.name, .bool s.force, .bool s.live, vI st, vI s.mark, .slice r.a r.an r.ac, .slice r.w r.wn r.wc, .slice r.g r.gn r.gc, vI s.tries,
   .bool s.ok, .bool s.fixed, .bool s.value.pr, vI s.value.at_, vI s.value.ep, vI s.value.sz, .slice x.h x.hn x.hc, .slice x.a x.an x.ac, .slice x.s x.sn x.sc]
/-- A value that is the document's agreement. -/
structure RefA (H : PHeap) (v : Value) (s : St) : Prop where
  inv : Inv H s
  nok : s.over = false → s.ok = false
  row : ∃ r x, v = .agg (cellsV s (stt s) r x).toArray ∧ RdR H r s.asks s.wait s.G ∧ SlA H s x
abbrev RBegan (H : PHeap) (r : St × List Msg) (v : Value) (H' : PHeap) : Prop := ∃ u b n c, v = .tuple #[u, .slice b n c] ∧ RefA H' u r.1 ∧ RdL H' mE 13 b n r.2 ∧ Sub H H'
abbrev tA : TypeId := 48
abbrev zA : List Value := [vI 0, vI 0, vI 0, vI 0, vI 0, vI 0, vI 0, .string ⟨#[]⟩, .bool false, .bool false, vI 0, vI 0, .slice none 0 0, .slice none 0 0, .slice none 0 0, vI 0, .bool false, .bool false, .bool false, vI 0, vI 0, vI 0, .slice none 0 0, .slice none 0 0, .slice none 0 0]
def r0 : RV := ⟨none, 0, 0, none, 0, 0, none, 0, 0⟩
theorem raSettle_ok {H : PHeap} {p : Plan} {b : Int} {nm : ByteArray} {force : Bool} (hp : p.ok = true) :
    Triple Tryz.prog 64 #[p.v, vI b, .string nm, .bool force] H (RBegan H ((init0 p b nm force false (IntKind.i64.wrap (2 * b))).ask mask)) := by
  refine raSettle.vc p.n p.t p.l p.w p.s p.r b nm force H _ fun k10 hk10 => ?_
  have s0 := Sub.upd (.cells zA.toArray tA (0, 0)) hk10
  have b0 : Bx (H.upd k10 (.cells zA.toArray tA (0, 0))) k10 tA zA := Bx.new _ _ _ _
  let S : St := init0 p b nm force false (IntKind.i64.wrap (2 * b))
  have w11 := b0.writes (cellsV S 0 r0 x0) rfl
  have b11 : Bx ((H.upd k10 (.cells zA.toArray tA (0, 0))).upd k10 (.cells (cellsV S 0 r0 x0).toArray tA (0, 0))) k10 tA (cellsV S 0 r0 x0) := Bx.new _ _ _ _
  have s11 := s0.wr (o := .cells (cellsV S 0 r0 x0).toArray tA (0, 0)) hk10
  refine ⟨_, w11, ?_⟩
  generalize (H.upd k10 (.cells zA.toArray tA (0, 0))).upd k10 (.cells (cellsV S 0 r0 x0).toArray tA (0, 0)) = H11 at b11 s11 ⊢
  refine (refRight_ok p).use ⟨_, rfl, fun e => (by rw [hp] at e; cases e), fun _ => ?_⟩
  refine (raAll_ok (p := p) (b := b) (nm := nm) (m := (1, 0, 0, b, nm, 0, 0, 0, 0, 0, ⟨none, 0, 0, []⟩, ⟨none, 0, 0, []⟩, ⟨none, 0, 0, []⟩)) hp rfl rfl).mono ?_
  rintro _ H54 ⟨a55, n56, c57, rfl, o55, s54, f55⟩
  refine ⟨a55, n56, c57, rfl, H, s11.trans s54, (refPAll_ok hp).mono ?_⟩
  rintro _ H60 ⟨a61, n62, c63, rfl, o61, s60, f61⟩
  refine ⟨a61, n62, c63, rfl, (s11.trans s54).trans s60, (Rnd.refNew_ok H60 p.r a55 a61 n56 c57 n62 c63).mono ?_⟩
  rintro _ H65 ⟨rfl, hH⟩
  rw [hH]
  have b60 := (b11.sub s54).sub s60
  have w76 := (b60.writes (cellsV ((init0 p b nm force false (IntKind.i64.wrap (2 * b))).ask mask).1 0 ⟨a55, n56, c57, a61, n62, c63, none, 0, 0⟩ x0) rfl).part (A := (cellsV S 0 r0 x0).take 12) (l2 := [.slice a55 n56 c57, .slice a61 n62 c63, .slice none 0 0, vI (maxI p.r 0)]) (B := (cellsV S 0 r0 x0).drop 16) (old := [.slice none 0 0, .slice none 0 0, .slice none 0 0, vI 0]) b60.reads rfl
  have b76 : Bx (H60.upd k10 (.cells (cellsV ((init0 p b nm force false (IntKind.i64.wrap (2 * b))).ask mask).1 0 ⟨a55, n56, c57, a61, n62, c63, none, 0, 0⟩ x0).toArray tA (0, 0))) k10 tA (cellsV ((init0 p b nm force false (IntKind.i64.wrap (2 * b))).ask mask).1 0 ⟨a55, n56, c57, a61, n62, c63, none, 0, 0⟩ x0) := Bx.new _ _ _ _
  have r1 := ((o55.rd (E := mE) (sz := 13) (by omega) Rnd.mLen).mono s60).frame (ob := at0 k10) (H' := H60.upd k10 (.cells (cellsV ((init0 p b nm force false (IntKind.i64.wrap (2 * b))).ask mask).1 0 ⟨a55, n56, c57, a61, n62, c63, none, 0, 0⟩ x0).toArray tA (0, 0))) (fun q o hq hn => by rw [Vx.upd_ne _ _ (hn _ rfl)]; exact hq) (fun a z ha hz => by cases hz; exact f55.ne b11 a ha)
  have r2 := (o61.rd (E := iE) (sz := 1) (by omega) Rnd.iLen).frame (ob := at0 k10) (H' := H60.upd k10 (.cells (cellsV ((init0 p b nm force false (IntKind.i64.wrap (2 * b))).ask mask).1 0 ⟨a55, n56, c57, a61, n62, c63, none, 0, 0⟩ x0).toArray tA (0, 0))) (fun q o hq hn => by rw [Vx.upd_ne _ _ (hn _ rfl)]; exact hq) (fun a z ha hz => by cases hz; exact f61.ne (b11.sub s54) a ha)
  have s76 := ((s11.trans s54).trans s60).wr (o := .cells (cellsV ((init0 p b nm force false (IntKind.i64.wrap (2 * b))).ask mask).1 0 ⟨a55, n56, c57, a61, n62, c63, none, 0, 0⟩ x0).toArray tA (0, 0)) hk10
  refine ⟨_, _, _, _, _, _, _, _, _, _, rfl, obP k10, _, w76, _, _, _, _, _, _, _, _, _, _, _, _, _, _, _, _, _, _, _, _, _, _, _, _, _, _, _, _, _, _, _, _, _, _, _, _, _, b76.reads, ?_⟩
  exact ⟨_, a55, n56, c57, rfl, ⟨⟨hp, rfl, fun m hm => (by cases hm), List.Pairwise.nil, fun m hm => (by cases hm), fun m hm => (by cases hm)⟩, fun _ => rfl, ⟨a55, n56, c57, a61, n62, c63, none, 0, 0⟩, x0, rfl, ⟨r1, r2, RdL.nil _ _ _, Nat.le_refl 0⟩, ⟨RdL.nil _ _ _, RdL.nil _ _ _, RdL.nil _ _ _⟩⟩, r1, s76⟩
/-- One proof for two places. -/
theorem twice4 {α β γ δ : Type} {T C : α → β → γ → δ → Prop} {G : Prop} (use : (∀ a b c d, C a b c d → T a b c d) → G) (key : ∀ a b c d, C a b c d → T a b c d) : G := use key
theorem raFixM_ok {H : PHeap} {s : St} {st : Int} {r : RV} {x : AV} {v : Val} (hp : s.p.ok = true) (ho : s.over = false) (hk : s.ok = false) (hS : ∀ m ∈ s.said, OkM H m) (hsl : SlA H s x) :
    Triple Tryz.prog 108 #[.agg (cellsV s st r x).toArray, v.v] H (RBegan H (s.fix v)) := by
  refine raFixM.vc s.p.n s.p.t s.p.l s.p.w s.p.s s.p.r s.ballot s.name s.force s.live st s.mark r.a r.an r.ac r.w r.wn r.wc r.g r.gn r.gc s.tries s.ok s.fixed s.value.pr s.value.at_ s.value.ep s.value.sz x.h x.hn x.hc x.a x.an x.ac x.s x.sn x.sc v.pr v.at_ v.ep v.sz H _ fun k hk0 => ⟨obP k, ?_⟩
  have b0 : Bx (H.upd k (.cells (cellsV s st r x).toArray tA (0, 0))) k tA (cellsV s st r x) := Bx.new _ _ _ _
  have s0 := Sub.upd (.cells (cellsV s st r x).toArray tA (0, 0)) hk0
  have w1 := b0.put (i := 10) (x := vI 1) (by show 10 < 25; decide)
  have b1 : Bx ((H.upd k (.cells (cellsV s st r x).toArray tA (0, 0))).upd k (.cells (cellsV s 1 r x).toArray tA (0, 0))) k tA (cellsV s 1 r x) := Bx.new _ _ _ _
  have s1 := s0.wr (o := .cells (cellsV s 1 r x).toArray tA (0, 0)) hk0
  refine ⟨_, w1, obP k, ?_⟩
  have e1 : (H.upd k (.cells (cellsV s st r x).toArray tA (0, 0))).upd k (.cells ((cellsV s st r x).set 10 (vI 1)).toArray tA (0, 0)) = (H.upd k (.cells (cellsV s st r x).toArray tA (0, 0))).upd k (.cells (cellsV s 1 r x).toArray tA (0, 0)) := rfl
  rw [e1]
  generalize (H.upd k (.cells (cellsV s st r x).toArray tA (0, 0))).upd k (.cells (cellsV s 1 r x).toArray tA (0, 0)) = H1 at b1 s1 ⊢
  have w2 := b1.put (i := 17) (x := .bool true) (by show 17 < 25; decide)
  have b2 : Bx (H1.upd k (.cells (cellsV { s with fixed := true } 1 r x).toArray tA (0, 0))) k tA (cellsV { s with fixed := true } 1 r x) := Bx.new _ _ _ _
  have s2 := s1.wr (o := .cells (cellsV { s with fixed := true } 1 r x).toArray tA (0, 0)) hk0
  refine ⟨H1.upd k (.cells (cellsV { s with fixed := true } 1 r x).toArray tA (0, 0)), w2, obP k, ?_⟩
  generalize H1.upd k (.cells (cellsV { s with fixed := true } 1 r x).toArray tA (0, 0)) = H2 at b2 s2 ⊢
  have w3 := (b2.writes (cellsV { s with fixed := true, value := v } 1 r x) rfl).part (A := (cellsV { s with fixed := true } 1 r x).take 18) (l2 := v.c) (B := (cellsV s st r x).drop 22) (old := s.value.c) b2.reads rfl
  have b3 : Bx (H2.upd k (.cells (cellsV { s with fixed := true, value := v } 1 r x).toArray tA (0, 0))) k tA (cellsV { s with fixed := true, value := v } 1 r x) := Bx.new _ _ _ _
  have s3 := s2.wr (o := .cells (cellsV { s with fixed := true, value := v } 1 r x).toArray tA (0, 0)) hk0
  refine ⟨H2.upd k (.cells (cellsV { s with fixed := true, value := v } 1 r x).toArray tA (0, 0)), w3, obP k, ?_⟩
  generalize H2.upd k (.cells (cellsV { s with fixed := true, value := v } 1 r x).toArray tA (0, 0)) = H45 at b3 s3 ⊢
  have rp : Reads H45 (fldA (at0 k) 0) [vI s.p.n, vI s.p.t, vI s.p.l, vI s.p.w, vI s.p.s, vI s.p.r] := b3.readsAt 0 fun j v hv => by
    match j, hv with
    | 0, hv => exact hv
    | 1, hv => exact hv
    | 2, hv => exact hv
    | 3, hv => exact hv
    | 4, hv => exact hv
    | 5, hv => exact hv
    | j + 6, hv => simp at hv
  refine ⟨_, b3.fld (i := 6) rfl, obP k, _, b3.fld (i := 7) rfl, obP k, _, b3.fld (i := 11) rfl, ?_⟩
  apply twice4 (C := fun (a : Option Addr) (n c : Nat) (H56 : PHeap) => OwnL H56 52 mE 13 a n c (s.fix v).2 ∧ Sub H45 H56 ∧ Off H45 a)
  · intro key
    refine ⟨fun e => ⟨obP k, _, _, _, _, _, _, rp, (raAll_ok (p := s.p) (b := s.ballot) (nm := s.name) (m := (4, 0, 0, s.ballot, s.name, v.at_, v.ep, s.mark, v.sz, 1, ⟨none, 0, 0, []⟩, ⟨none, 0, 0, []⟩, ⟨none, 0, 0, []⟩)) hp rfl rfl).mono ?_⟩, fun e => ⟨obP k, _, _, _, _, _, _, rp, (raAll_ok (p := s.p) (b := s.ballot) (nm := s.name) (m := (4, 0, 0, s.ballot, s.name, 0, 0, s.mark, 0, 0, ⟨none, 0, 0, []⟩, ⟨none, 0, 0, []⟩, ⟨none, 0, 0, []⟩)) hp rfl rfl).mono ?_⟩⟩
    · intro w H56 hw
      obtain ⟨a, n, c, hw1, o, hs, hoff⟩ := hw
      have : (s.fix v).2 = askAll s.p s.ballot s.name (4, 0, 0, s.ballot, s.name, v.at_, v.ep, s.mark, v.sz, 1, ⟨none, 0, 0, []⟩, ⟨none, 0, 0, []⟩, ⟨none, 0, 0, []⟩) := by
        show askAll s.p s.ballot s.name (mfix s.mark v) = _
        unfold mfix askAll; rw [e]; rfl
      exact ⟨a, n, c, hw1, key a n c H56 ⟨by rw [this]; exact o, hs, hoff⟩⟩
    · intro w H56 hw
      obtain ⟨a, n, c, hw1, o, hs, hoff⟩ := hw
      have : (s.fix v).2 = askAll s.p s.ballot s.name (4, 0, 0, s.ballot, s.name, 0, 0, s.mark, 0, 0, ⟨none, 0, 0, []⟩, ⟨none, 0, 0, []⟩, ⟨none, 0, 0, []⟩) := by
        show askAll s.p s.ballot s.name (mfix s.mark v) = _
        unfold mfix askAll; rw [e]; rfl
      exact ⟨a, n, c, hw1, key a n c H56 ⟨by rw [this]; exact o, hs, hoff⟩⟩
  · rintro a57 n58 c59 H56 ⟨o57, s56, f57⟩
    refine ⟨H45, s56, obP k, obF k 0, _, b3.fld (i := 5) rfl, obP k, _, _, _, _, _, _, rp, (refPAll_ok hp).mono ?_⟩
    rintro _ H60 ⟨a61, n62, c63, rfl, o61, s60, f61⟩
    refine ⟨a61, n62, c63, rfl, s56.trans s60, (Rnd.refNew_ok H60 s.p.r a57 a61 n58 c59 n62 c63).mono ?_⟩
    rintro _ H65 ⟨rfl, hH⟩
    rw [hH]
    have b60 := (b3.sub s56).sub s60
    have w76 := (b60.writes (cellsV (s.fix v).1 1 ⟨a57, n58, c59, a61, n62, c63, none, 0, 0⟩ x) rfl).part (A := (cellsV s 1 r x).take 12) (l2 := [.slice a57 n58 c59, .slice a61 n62 c63, .slice none 0 0, vI (maxI s.p.r 0)]) (B := (cellsV { s with fixed := true, value := v } 1 r x).drop 16) (old := [.slice r.a r.an r.ac, .slice r.w r.wn r.wc, .slice r.g r.gn r.gc, vI s.tries]) b60.reads rfl
    have b76 : Bx (H60.upd k (.cells (cellsV (s.fix v).1 1 ⟨a57, n58, c59, a61, n62, c63, none, 0, 0⟩ x).toArray tA (0, 0))) k tA (cellsV (s.fix v).1 1 ⟨a57, n58, c59, a61, n62, c63, none, 0, 0⟩ x) := Bx.new _ _ _ _
    have r1 := ((o57.rd (E := mE) (sz := 13) (by omega) Rnd.mLen).mono s60).frame (ob := at0 k) (H' := H60.upd k (.cells (cellsV (s.fix v).1 1 ⟨a57, n58, c59, a61, n62, c63, none, 0, 0⟩ x).toArray tA (0, 0))) (fun q o hq hn => by rw [Vx.upd_ne _ _ (hn _ rfl)]; exact hq) (fun a z ha hz => by cases hz; exact f57.ne b3 a ha)
    have r2 := (o61.rd (E := iE) (sz := 1) (by omega) Rnd.iLen).frame (ob := at0 k) (H' := H60.upd k (.cells (cellsV (s.fix v).1 1 ⟨a57, n58, c59, a61, n62, c63, none, 0, 0⟩ x).toArray tA (0, 0))) (fun q o hq hn => by rw [Vx.upd_ne _ _ (hn _ rfl)]; exact hq) (fun a z ha hz => by cases hz; exact f61.ne (b3.sub s56) a ha)
    have s76 := ((s3.trans s56).trans s60).wr (o := .cells (cellsV (s.fix v).1 1 ⟨a57, n58, c59, a61, n62, c63, none, 0, 0⟩ x).toArray tA (0, 0)) hk0
    refine ⟨_, _, _, _, _, _, _, _, _, _, rfl, obP k, _, w76, _, _, _, _, _, _, _, _, _, _, _, _, _, _, _, _, _, _, _, _, _, _, _, _, _, _, _, _, _, _, _, _, _, _, _, _, _, b76.reads, ?_⟩
    have hst : stt (s.fix v).1 = 1 := by unfold stt; rw [fix_over, ho]; rfl
    have hx := hsl.mono s76
    refine ⟨_, a57, n58, c59, rfl, ⟨⟨hp, rfl, fun m hm => (by cases hm), List.Pairwise.nil, fun m hm => (by cases hm), fun m hm => (hS m hm).mono s76⟩, fun _ => hk, ⟨a57, n58, c59, a61, n62, c63, none, 0, 0⟩, x, by rw [hst], ⟨r1, r2, RdL.nil _ _ _, Nat.le_refl 0⟩, ⟨hx.h, hx.a, hx.s⟩⟩, r1, s76⟩
end Go.Agr
namespace Go.Agr
open Go.Vx Go.Vc Go.Proofs Go.Pln Go.Stl
open Go.Rnd (takesG insG froms againG RdR RV OkM AscG)
theorem stt_over {s : St} (h : s.over = true) : stt s = 2 := by unfold stt; rw [h]; rfl
theorem stt_fix {s : St} (h : s.over = false) (hf : s.fixed = true) : stt s = 1 := by unfold stt; rw [h, hf]; rfl
theorem stt_ask {s : St} (h : s.over = false) (hf : s.fixed = false) : stt s = 0 := by unfold stt; rw [h, hf]; rfl
theorem Inv.mono {F F' : PHeap} {s : St} (h : Inv F s) (hs : Sub F F') : Inv F' s := ⟨h.pok, h.wt, h.gin, h.asc, fun m hm => (h.okG m hm).mono hs, fun m hm => (h.okS m hm).mono hs⟩
theorem Inv.wl {F : PHeap} {s : St} (h : Inv F s) : s.wait.length ≤ 256 := by
  rw [h.wt, ids_len]
  have := (Plan.ok_iff.1 h.pok).n2
  omega
theorem raTakes_ok {H : PHeap} {s : St} {r : RV} {x : AV} {m : Msg} : Triple Tryz.prog 83 #[.agg (cellsV s (stt s) r x).toArray, Rnd.vM m] H fun v H' => v = .bool (!s.over && s.takes m) ∧ H' = H := by
  obtain ⟨y1, y2, y3, y4, y5, y6, y7, y8, y9, y10, ⟨ya, yb, yc, yl⟩, ⟨za, zb, zc, zl⟩, ⟨wa, wb, wc, wl⟩⟩ := m
  have ht : s.takes (y1, y2, y3, y4, y5, y6, y7, y8, y9, y10, ⟨ya, yb, yc, yl⟩, ⟨za, zb, zc, zl⟩, ⟨wa, wb, wc, wl⟩) = (y4 == s.ballot && eqS y5 s.name && (if s.fixed then (if y1 == 16 then y10 == 4 && y8 == s.mark else y1 == 17 && y8 == s.mark && (if s.value.pr then (y10 == 2 || y10 == 3) && y6 == s.value.at_ && y7 == s.value.ep else y10 == 4)) else y1 == 14)) := rfl
  rw [ht]
  refine raTakes.vc s.p.n s.p.t s.p.l s.p.w s.p.s s.p.r s.ballot s.name s.force s.live (stt s) s.mark r.a r.an r.ac r.w r.wn r.wc r.g r.gn r.gc s.tries s.ok s.fixed s.value.pr s.value.at_ s.value.ep s.value.sz x.h x.hn x.hc x.a x.an x.ac x.s x.sn x.sc y1 y2 y3 y4 y5 y6 y7 y8 y9 y10 ya yb yc za zb zc wa wb wc H _ ⟨fun e1 => ?_, fun e1 => ?_⟩
  · refine ⟨?_, rfl⟩
    congr 1
    cases ho : s.over with
    | true => rfl
    | false =>
      have h2 : (stt s == 2) = false := by unfold stt; rw [ho]; cases s.fixed <;> rfl
      rw [h2] at e1
      cases h4 : y4 == s.ballot with
      | false => rfl
      | true =>
        simp [bne, h4] at e1
        rw [e1]; rfl
  · have ho : s.over = false := by
      cases ho : s.over with
      | false => rfl
      | true => rw [stt_over ho] at e1; cases e1
    have h2 : (stt s == 2) = false := by unfold stt; rw [ho]; cases s.fixed <;> rfl
    rw [h2] at e1
    have h4 : (y4 == s.ballot) = true := by
      cases h4 : y4 == s.ballot with
      | true => rfl
      | false => simp [bne, h4] at e1
    have h5 : eqS y5 s.name = true := by
      simp [bne, h4] at e1
      exact e1
    rw [ho, h4, h5]
    refine ⟨fun e2 => ?_, fun e2 => ⟨fun e3 => ?_, fun e3 => ⟨fun e4 => ?_, fun e4 => ⟨fun e5 => ?_, fun e5 => ?_⟩⟩⟩⟩
    · have hf : s.fixed = false := by
        cases hf : s.fixed with
        | false => rfl
        | true => rw [stt_fix ho hf] at e2; cases e2
      exact ⟨by rw [hf]; simp, rfl⟩
    all_goals
      have hf : s.fixed = true := by
        cases hf : s.fixed with
        | true => rfl
        | false => rw [stt_ask ho hf] at e2; cases e2
      rw [hf]
    · have e3' : (y8 == s.mark) = false := by simpa [bne] using e3
      refine ⟨?_, rfl⟩
      rw [e3']; cases y1 == 16 <;> cases y10 == 4 <;> cases y1 == 17 <;> rfl
    all_goals have e3' : (y8 == s.mark) = true := by simpa [bne] using e3
    · exact ⟨by rw [e4, e3']; simp, rfl⟩
    · refine ⟨?_, rfl⟩
      rw [e4, e3', e5]
      cases y1 == 17 <;> cases y10 == 2 <;> cases y10 == 3 <;> cases y6 == s.value.at_ <;> cases y7 == s.value.ep <;> rfl
    · refine ⟨?_, rfl⟩
      rw [e4, e3', e5]
      cases y1 == 17 <;> cases y10 == 4 <;> rfl
/-- What is told at the end is nothing. -/
abbrev RBegan2 (H : PHeap) (r : St × List Msg) (v : Value) (H' : PHeap) : Prop := RBegan H r v H' ∧ (r.1.over = true → ∃ u, v = .tuple #[u, .slice none 0 0])
theorem raJudge_ok2 {H : PHeap} {s : St} {r : RV} {x : AV} (ho : s.over = false) (hI : Inv H s) (hk : s.ok = false) (hR : RdR H r s.asks s.wait s.G) (hS : SlA H s x) :
    Triple Tryz.prog 73 #[.agg (cellsV s (stt s) r x).toArray] H (RBegan2 H s.judge) := by
  have hgl := hR.got.len
  have hwl := hR.wait.len
  have h256 := hI.len
  have w256 := hI.wl
  refine raJudge.vc s.p.n s.p.t s.p.l s.p.w s.p.s s.p.r s.ballot s.name s.force s.live (stt s) s.mark r.a r.an r.ac r.w r.wn r.wc r.g r.gn r.gc s.tries s.ok s.fixed s.value.pr s.value.at_ s.value.ep s.value.sz x.h x.hn x.hc x.a x.an x.ac x.s x.sn x.sc H _ ((Rnd.refAll_ok (tries := s.tries) hR (by omega) (by omega)).mono ?_)
  rintro _ H39 ⟨rfl, hH⟩
  rw [hH]
  have hall : (s.wait.all fun i => decide (i ∈ froms s.G)) = allG s.wait s.G := rfl
  rw [hall]
  refine ⟨_, rfl, fun e1 => ?_, fun e1 => ?_⟩
  · have hf : s.fixed = false := by
      cases hf : s.fixed with
      | false => rfl
      | true => rw [stt_fix ho hf] at e1; cases e1
    have hst := stt_ask ho hf
    have hj : s.judge = if (verd s.p s.G).enough then
        if (verd s.p s.G).clean && !s.force then (St.end_ { s with said := s.G, value := (verd s.p s.G).value, holders := (verd s.p s.G).holders } true, [])
        else St.fix { s with said := s.G } (verd s.p s.G).value
      else if allG s.wait s.G then (s.end_ false, []) else (s, []) := by
      unfold St.judge; rw [if_neg (by rw [hf]; decide)]; rfl
    rw [hj]
    refine (rSettle_ok (p := s.p) hR.got (fun y hy => (hI.okG y hy).who) (by omega)).mono ?_
    rintro _ H42 ⟨b, m, q, rfl, hown, hs42, _⟩
    generalize verd s.p s.G = w at hown
    have hI42 := hI.mono hs42
    have hS42 := hS.mono hs42
    have hR42 := hR.mono hs42
    refine ⟨_, _, _, _, _, _, _, b, m, q, rfl, fun e2 => ⟨fun e3 => ?_, fun e3 => ?_⟩, fun e2 => ⟨fun e3 => ?_, fun e3 => ?_⟩⟩
    · have e2' : w.enough = false := by simpa using e2
      rw [e2', e3]
      refine ⟨⟨_, none, 0, 0, rfl, ⟨⟨hI42.pok, hI42.wt, hI42.gin, hI42.asc, hI42.okG, hI42.okS⟩, fun _ => rfl, r, x, ?_, hR42, ⟨hS42.h, hS42.a, hS42.s⟩⟩, RdL.nil _ _ _, hs42⟩, fun _ => ⟨_, rfl⟩⟩
      simp only [Bool.false_eq_true, if_false, if_true]
      rw [stt_over (s := s.end_ false) rfl, hk]; rfl
    · have e2' : w.enough = false := by simpa using e2
      rw [e2', e3]
      exact ⟨⟨_, none, 0, 0, rfl, ⟨hI42, fun _ => hk, r, x, rfl, hR42, hS42⟩, RdL.nil _ _ _, hs42⟩, fun _ => ⟨_, rfl⟩⟩
    · have e2' : w.enough = true := by simpa using e2
      have e3' : (w.clean && !s.force) = false := by cases h1 : w.clean <;> cases h2 : s.force <;> simp [h1, h2] at e3 ⊢
      rw [e2', e3', if_pos rfl]
      refine (raFixM_ok (s := { s with said := s.G }) (st := stt s) (r := r) (x := { x with s := r.g, sn := r.gn, sc := r.gc }) (v := w.value) hI.pok ho hk hI42.okG ⟨hS42.h, hS42.a, hR42.got⟩).mono ?_
      rintro _ H54 ⟨u, a, n, c, rfl, hRA, hrd, hs54⟩
      obtain ⟨r2, x2, hu, _⟩ := hRA.row
      refine ⟨_, _, _, _, _, _, _, _, _, _, _, _, _, _, _, _, _, _, _, _, _, _, _, _, _, _, _, _, _, _, _, _, _, _, _, _, _, a, n, c, by rw [hu], ?_⟩
      rw [← hu]
      exact ⟨⟨u, a, n, c, rfl, hRA, hrd, hs42.trans hs54⟩, fun h => absurd (ho.symm.trans h) (by decide)⟩
    · have e2' : w.enough = true := by simpa using e2
      have e3' : (w.clean && !s.force) = true := by cases h1 : w.clean <;> cases h2 : s.force <;> simp [h1, h2] at e3 ⊢
      rw [e2', e3', if_pos rfl, if_pos rfl]
      exact ⟨⟨_, none, 0, 0, rfl, ⟨⟨hI42.pok, hI42.wt, hI42.gin, hI42.asc, hI42.okG, hI42.okG⟩, fun e => (by cases e), r, { x with s := r.g, sn := r.gn, sc := r.gc, h := b, hn := m, hc := q }, rfl, hR42, ⟨hown.rd (E := iE) (sz := 1) (by omega) Rnd.iLen, hS42.a, hR42.got⟩⟩, RdL.nil _ _ _, hs42⟩, fun _ => ⟨_, rfl⟩⟩
  · have hf : s.fixed = true := by
      cases hf : s.fixed with
      | true => rfl
      | false => rw [stt_ask ho hf] at e1; cases e1
    have hst := stt_fix ho hf
    have hj : s.judge = if decide ((s.num : Int) ≥ s.p.w) || allG s.wait s.G then (s.counted.end_ (decide ((s.num : Int) ≥ s.p.w)), []) else (s.counted, []) := by
      unfold St.judge; rw [if_pos hf]; rfl
    rw [hj]
    refine ⟨fun t H' => match t with | [.int _ i, v] => 0 ≤ i ∧ i ≤ r.gn ∧ Sub H H' ∧ ∃ a an ac b bn bc, v = .agg (cellsV s (stt s) r { x with a := a, an := an, ac := ac, h := b, hn := bn, hc := bc }).toArray ∧ OwnL H' 3 iE 1 a an ac ((ackL (s.G.take i.toNat)).map from_) ∧ OwnL H' 3 iE 1 b bn bc (holdL s.value (ackL (s.G.take i.toNat))) ∧ Off H a ∧ Off H b ∧ (∀ z y, a = some z → b = some y → z.block ≠ y.block) | _ => False, fun t _ => match t with | [.int _ i, _] => (r.gn - i).toNat | _ => 0, ⟨by omega, by omega, Sub.refl _, none, 0, 0, none, 0, 0, rfl, Owns.nil _ _ 1, Owns.nil _ _ 1, Off.none _, Off.none _, fun z y e => by cases e⟩, ?_⟩
    rintro i n98 n99 n100 n101 n102 n103 n104 s105 b106 b107 n108 n109 a110 k111 k112 a113 k114 k115 a116 k117 k118 n119 b120 b121 b122 n123 n124 n125 a126 k127 k128 a129 k130 k131 a132 k133 k134 H135 ⟨i0, i1, hs, a, an, ac, b, bn, bc, hv, hoa, hob, hfa, hfb, hap⟩
    simp only [Value.agg.injEq] at hv
    have hv' := congrArg Array.toList hv
    simp at hv'
    obtain ⟨rfl, rfl, rfl, rfl, rfl, rfl, rfl, rfl, rfl, rfl, rfl, rfl, ⟨rfl, rfl, rfl⟩, ⟨rfl, rfl, rfl⟩, ⟨rfl, rfl, rfl⟩, rfl, rfl, rfl, rfl, rfl, rfl, rfl, ⟨rfl, rfl, rfl⟩, ⟨rfl, rfl, rfl⟩, rfl, rfl, rfl⟩ := hv'
    obtain ⟨i, rfl⟩ : ∃ j : Nat, i = j := ⟨i.toNat, by omega⟩
    rw [Int.toNat_natCast] at hoa hob
    have hal := (hoa.rd (E := iE) (sz := 1) (by omega) Rnd.iLen).len
    have hbl := (hob.rd (E := iE) (sz := 1) (by omega) Rnd.iLen).len
    rw [List.length_map] at hal
    have hfl : (ackL (s.G.take i)).length ≤ 256 := by
      have : (ackL (s.G.take i)).length ≤ (s.G.take i).length := List.length_filter_le ..
      rw [List.length_take] at this
      omega
    have hhl := hold_len s.value (ackL (s.G.take i))
    refine ⟨fun hi => ?_, fun hi => ?_⟩
    · have hi' : i < r.gn := by simpa using hi
      have hg := hR.got.mono hs
      obtain ⟨y, hy, hyr⟩ := hg.ex (i := (i : Int)) (by omega) (by omega)
      rw [Int.toNat_natCast] at hy
      have hsn := ackL_snoc (s.G.take i) y
      rw [show s.G.take i ++ [y] = s.G.take (i + 1) by rw [List.take_add_one, hy]; rfl] at hsn
      have hky : ∀ y1, kind_ y = y1 → (kind_ y == 17) = (y1 == 17) := by rintro _ rfl; rfl
      have hfy : ∀ y2, from_ y = y2 → [y].map from_ = [y2] := by rintro _ rfl; rfl
      have hme : ∀ (H : PHeap) (k : Nat), Bx H k 52 (mE y) → RdL H mE 13 (at0 k) 1 [y] := fun H k h => Bx.rd (E := mE) (l := [y]) Rnd.mLen (by simpa using h)
      have hmB : ∀ (H : PHeap) (k : Nat), Bx (H.upd k (.cells (mE y).toArray 52 (0, 0))) k 52 (mE y) := fun H k => Bx.new _ _ _ _
      have hap1 : ∀ L, holdL s.value (L ++ [y]) = holdL s.value L ++ holdL s.value [y] := fun L => by
        unfold holdL; rw [List.filter_append, List.map_append]
      have hl1 := hold_len s.value [y]
      generalize hX : holdL s.value [y] = X at hap1 hl1
      have hho : ∀ {G : PHeap} {oa : Option Addr} {c : Nat}, RdL G mE 13 oa 1 [y] → Triple Tryz.prog 109 #[.slice oa 1 c, s.value.v] G fun w H' => ∃ b k q, w = .slice b k q ∧ OwnL H' 3 iE 1 b k q X ∧ Sub G H' ∧ Off G b := fun h => by
        rw [← hX]; exact rHold_ok h (by decide)
      obtain ⟨y1, y2, y3, y4, y5, y6, y7, y8, y9, y10, ⟨ya, yb, yc, yl⟩, ⟨za, zb, zc, zl⟩, ⟨wa, wb, wc, wl⟩⟩ := y
      rw [hky y1 rfl] at hsn
      have hfy' := hfy y2 rfl
      rw [Rnd.wrapS (i := (i : Int)) (by omega) (by omega)]
      refine ⟨hg.ob (by omega) (by omega), y1, y2, y3, y4, y5, y6, y7, y8, y9, y10, ya, yb, yc, za, zb, zc, wa, wb, wc, hyr, fun e2 k155 hk155 => ?_, fun e2 => ?_⟩
      · rw [e2, if_pos rfl] at hsn
        refine append_one Rnd.tI (E := iE) (x := y2) hk155 Rnd.iLen hoa rfl (Rnd.iOne _) (by simp [maxLen]; omega) (by omega) ?_
        intro a' ac' H157 hoa' hf' hfr' hnn
        have hob' : OwnL H157 3 iE 1 _ _ _ _ := hob.mono fun z o hz ho' => hf' _ _ ho' fun z' hz' e => hap z' z hz' hz e.symm
        have hap' : ∀ z y, a' = some z → a126 = some y → z.block ≠ y.block := fun z y hz hy => by
          subst hy
          obtain ⟨o, ho'⟩ := hob.blk
          exact hfr'.ne ho' (fun z' hz' => hap z' y hz' rfl) z hz
        have s157 := hf'.sub hs hfa
        have hfa' := hfr'.off hs hfa
        refine ⟨a', _, ac', rfl, fun k161 hk161 => ?_⟩
        have s161 := Sub.upd (.cells (mE (y1, y2, y3, y4, y5, y6, y7, y8, y9, y10, ⟨ya, yb, yc, yl⟩, ⟨za, zb, zc, zl⟩, ⟨wa, wb, wc, wl⟩)).toArray 52 (0, 0)) hk161
        refine (hho (hme _ _ (hmB H157 k161))).mono ?_
        rintro _ H163 ⟨b5, m5, q5, rfl, hX2, s163, o163⟩
        have hs163 := s161.trans s163
        have hob3 := hob'.mono (H' := H163) fun z o _ ho' => hs163.le _ _ ho'
        have hoa3 := hoa'.mono (H' := H163) fun z o _ ho' => hs163.le _ _ ho'
        have hm := (hX2.rd (E := iE) (sz := 1) (by omega) Rnd.iLen).len
        refine ⟨b5, m5, q5, rfl, append_rd Rnd.tI Rnd.iLen hob3 (hX2.rd (E := iE) (sz := 1) (by omega) Rnd.iLen) Rnd.iOne (by simp [maxLen]; simp at hl1; omega) (by simp at hl1; omega) ?_⟩
        intro b' bc' H168 hob4 hf4 hfr4
        have hoa4 := hoa3.mono (H' := H168) fun z o hz ho' => hf4 _ _ ho' fun z' hz' e => hap' z z' hz hz' e
        have hap4 : ∀ z y, a' = some z → b' = some y → z.block ≠ y.block := fun z y hz hy => by
          subst hz
          obtain ⟨o, ho'⟩ := hoa3.blk
          exact fun e => hfr4.ne ho' (fun z' hz' e' => hap' z z' rfl hz' e'.symm) y hy e.symm
        refine ⟨b', _, bc', rfl, ⟨by omega, by omega, hf4.sub (s157.trans hs163) hfb, a', _, ac', b', _, bc', rfl, ?_, ?_, hfa', hfr4.off (s157.trans hs163) hfb, hap4⟩, ⟨by simp only; omega⟩⟩
        · rw [show ((i : Int) + 1).toNat = i + 1 by omega, hsn, List.map_append, hfy']; exact hoa4
        · rw [show ((i : Int) + 1).toNat = i + 1 by omega, hsn, hap1]; exact hob4
      · rw [e2] at hsn
        simp only [Bool.false_eq_true, if_false, List.append_nil] at hsn
        refine ⟨⟨by omega, by omega, hs, _, _, _, _, _, _, rfl, ?_, ?_, hfa, hfb, hap⟩, ⟨by simp only; omega⟩⟩
        · rw [show ((i : Int) + 1).toNat = i + 1 by omega, hsn]; exact hoa
        · rw [show ((i : Int) + 1).toNat = i + 1 by omega, hsn]; exact hob
    · have hi' : ¬ i < r.gn := by simpa using hi
      rw [List.take_of_length_le (by omega)] at hoa hob hal hbl
      have hI1 := hI.mono hs
      have hS1 := hS.mono hs
      have hR1 := hR.mono hs
      have hnum : (bif s.live then decide ((k127 : Int) ≥ s.p.w) else decide ((k130 : Int) ≥ s.p.w)) = decide ((s.num : Int) ≥ s.p.w) := by
        unfold St.num
        cases s.live
        · rw [cond_false, ← hal]; rfl
        · rw [cond_true, ← hbl]; rfl
      have sl : SlA H135 s.counted { x with a := a129, an := k130, ac := k131, h := a126, hn := k127, hc := k128 } := ⟨hob.rd (E := iE) (sz := 1) (by omega) Rnd.iLen, hoa.rd (E := iE) (sz := 1) (by omega) Rnd.iLen, hS1.s⟩
      rw [hnum]
      refine ⟨fun e2 => ?_, fun e2 => ?_⟩
      · have e2' : (decide ((s.num : Int) ≥ s.p.w) || allG s.wait s.G) = true := by
          cases h1 : decide ((s.num : Int) ≥ s.p.w) <;> simp [h1] at e2 ⊢
          exact e2
        rw [e2', if_pos rfl]
        exact ⟨⟨_, none, 0, 0, rfl, ⟨⟨hI1.pok, hI1.wt, hI1.gin, hI1.asc, hI1.okG, hI1.okS⟩, fun e => (by cases e), r, _, rfl, hR1, ⟨sl.h, sl.a, sl.s⟩⟩, RdL.nil _ _ _, hs⟩, fun _ => ⟨_, rfl⟩⟩
      · have e2' : (decide ((s.num : Int) ≥ s.p.w) || allG s.wait s.G) = false := by
          cases h1 : decide ((s.num : Int) ≥ s.p.w) <;> simp [h1] at e2 ⊢
          exact e2
        rw [e2', if_neg (by decide)]
        exact ⟨⟨_, none, 0, 0, rfl, ⟨⟨hI1.pok, hI1.wt, hI1.gin, hI1.asc, hI1.okG, hI1.okS⟩, fun _ => hk, r, _, rfl, hR1, sl⟩, RdL.nil _ _ _, hs⟩, fun _ => ⟨_, rfl⟩⟩
end Go.Agr
namespace Go.Agr
open Go.Vx Go.Vc Go.Proofs Go.Pln Go.Stl
open Go.Rnd (takesG insG froms againG RdR RV OkM AscG)
theorem Inv.got {F : PHeap} {s : St} {m : Msg} (h : Inv F s) (hm : OkM F m) (ht : takesG s.wait s.G m = true) : Inv F (s.got m) := by
  obtain ⟨n1, n2⟩ := takes_new ht
  refine ⟨h.pok, h.wt, fun y hy => ?_, Rnd.ins_asc h.asc n2, fun y hy => ?_, h.okS⟩
  · rcases Rnd.mem_ins.1 hy with hy | hy
    · exact h.gin y hy
    · rw [hy]; show Rnd.from_ m ∈ ids s.p; rw [← h.wt]; exact n1
  · rcases Rnd.mem_ins.1 hy with hy | hy
    · exact h.okG y hy
    · rw [hy]; exact hm
theorem raTake_ok2 {H : PHeap} {s : St} {u : Value} {m : Msg} (hA : RefA H u s) (hm : OkM H m) : Triple Tryz.prog 46 #[u, Rnd.vM m] H (RBegan2 H (s.take m)) := by
  obtain ⟨hI, hnok, r, x, rfl, hR, hS⟩ := hA
  have h256 := hI.len
  have w256 := hI.wl
  have hgl := hR.got.len
  have hwl := hR.wait.len
  have htk := raTakes_ok (H := H) (s := s) (r := r) (x := x) (m := m)
  have hrt := Rnd.refTake_ok (tries := s.tries) (m := m) hR (by omega) (by omega)
  have hst : s.take m = if s.over then (s, []) else if s.takes m && takesG s.wait s.G m then (if allG s.wait (insG s.G m) then (s.got m).judge else (s.got m, [])) else (s, []) := rfl
  have hgot := fun h => hI.got (m := m) hm h
  have hnokg : s.over = false → (s.got m).ok = false := fun h => hnok h
  have hsg : (s.got m).wait = s.wait ∧ (s.got m).G = insG s.G m ∧ (s.got m).asks = s.asks ∧ (s.got m).tries = s.tries ∧ (s.got m).over = s.over ∧ stt (s.got m) = stt s := ⟨rfl, rfl, rfl, rfl, rfl, rfl⟩
  have hcv : ∀ r', cellsV (s.got m) (stt (s.got m)) r' x = cellsV s (stt s) r' x := fun _ => rfl
  have hsl : ∀ {F : PHeap}, SlA F s x → SlA F (s.got m) x := fun h => ⟨h.h, h.a, h.s⟩
  generalize s.got m = sg at hst hgot hnokg hsg hcv hsl
  obtain ⟨g1, g2, g3, g4, g5, g6⟩ := hsg
  generalize s.take m = out at hst
  generalize s.takes m = tk at htk hst
  generalize takesG s.wait s.G m = tg at hrt hst hgot
  generalize insG s.G m = G' at hst hrt g2
  obtain ⟨y1, y2, y3, y4, y5, y6, y7, y8, y9, y10, ⟨ya, yb, yc, yl⟩, ⟨za, zb, zc, zl⟩, ⟨wa, wb, wc, wl⟩⟩ := m
  refine raTake.vc s.p.n s.p.t s.p.l s.p.w s.p.s s.p.r s.ballot s.name s.force s.live (stt s) s.mark r.a r.an r.ac r.w r.wn r.wc r.g r.gn r.gc s.tries s.ok s.fixed s.value.pr s.value.at_ s.value.ep s.value.sz x.h x.hn x.hc x.a x.an x.ac x.s x.sn x.sc y1 y2 y3 y4 y5 y6 y7 y8 y9 y10 ya yb yc za zb zc wa wb wc H _ (htk.mono ?_)
  rintro _ H58 ⟨rfl, hH⟩
  rw [hH]
  refine ⟨_, rfl, fun e1 => ?_, fun e1 => hrt.mono ?_⟩
  · have : out = (s, []) := by
      rw [hst]
      cases ho : s.over with
      | true => rw [if_pos rfl]
      | false => rw [ho] at e1; have : tk = false := by simpa using e1
                 rw [this]; rfl
    rw [this]
    exact ⟨⟨_, none, 0, 0, rfl, ⟨hI, hnok, r, x, rfl, hR, hS⟩, RdL.nil _ _ _, Sub.refl _⟩, fun _ => ⟨_, rfl⟩⟩
  · have ho : s.over = false := by cases ho : s.over <;> simp [ho] at e1 ⊢
    have htk' : tk = true := by cases tk <;> simp [ho] at e1 ⊢
    rw [if_neg (by rw [ho]; decide), htk', Bool.true_and] at hst
    rintro _ H61 ⟨r', rfl, hR', _, _, _, hs61⟩
    have hS61 := hS.mono hs61
    refine ⟨_, _, _, _, _, _, _, _, _, _, _, rfl, fun e2 => ?_, fun e2 => ?_⟩
    · have e2' : tg = true := by simpa using e2
      rw [e2', if_pos rfl] at hst hR'
      have hIg := (hgot e2').mono hs61
      have hR61 : RdR H61 r' sg.asks sg.wait sg.G := by rw [g1, g2, g3]; exact hR'
      have hwl' := hR'.wait.len
      have hgl' := hR61.got.len
      have hle := hIg.len
      have hwe := hI.wl
      refine (Rnd.refAll_ok (tries := s.tries) hR' (by omega) (by omega)).mono ?_
      rintro _ H74 ⟨rfl, hH74⟩
      rw [hH74]
      have hall : (s.wait.all fun i => decide (i ∈ froms G')) = allG s.wait G' := rfl
      rw [hall]
      refine ⟨_, rfl, fun e3 => ?_, fun e3 => ?_⟩
      · have e3' : allG s.wait G' = false := by simpa using e3
        rw [e3', if_neg (by decide)] at hst
        rw [hst]
        exact ⟨⟨_, none, 0, 0, rfl, ⟨hIg, fun h => hnokg ho, r', x, by rw [hcv], hR61, hsl hS61⟩, RdL.nil _ _ _, hs61⟩, fun _ => ⟨_, rfl⟩⟩
      · have e3' : allG s.wait G' = true := by simpa using e3
        rw [e3', if_pos rfl] at hst
        rw [hst]
        have hj := raJudge_ok2 (s := sg) (r := r') (x := x) (by rw [g5]; exact ho) hIg (hnokg ho) hR61 (hsl hS61)
        rw [hcv] at hj
        refine hj.mono ?_
        rintro _ H77 ⟨⟨u, a, n, c, rfl, hRA, hrd, hs77⟩, hno⟩
        obtain ⟨r2, x2, hu, _⟩ := hRA.row
        refine ⟨_, _, _, _, _, _, _, _, _, _, _, _, _, _, _, _, _, _, _, _, _, _, _, _, _, _, _, _, _, _, _, _, _, _, _, _, _, a, n, c, by rw [hu], ?_⟩
        rw [← hu]
        exact ⟨⟨u, a, n, c, rfl, hRA, hrd, hs61.trans hs77⟩, hno⟩
    · have e2' : tg = false := by simpa using e2
      rw [e2', if_neg (by decide)] at hst hR'
      rw [hst]
      exact ⟨⟨_, none, 0, 0, rfl, ⟨hI.mono hs61, hnok, r', x, rfl, hR', hS61⟩, RdL.nil _ _ _, hs61⟩, fun _ => ⟨_, rfl⟩⟩
theorem raTick_ok2 {H : PHeap} {s : St} {u : Value} (hA : RefA H u s) (hsm : s.judge.1.asks.length ≤ 100000) : Triple Tryz.prog 36 #[u] H (RBegan2 H s.tick) := by
  obtain ⟨hI, hnok, r, x, rfl, hR, hS⟩ := hA
  have hst : s.tick = if s.over then (s, []) else if s.judge.1.over || (s.judge.1.fixed != s.fixed) then s.judge else s.judge.1.late := rfl
  refine raTick.vc s.p.n s.p.t s.p.l s.p.w s.p.s s.p.r s.ballot s.name s.force s.live (stt s) s.mark r.a r.an r.ac r.w r.wn r.wc r.g r.gn r.gc s.tries s.ok s.fixed s.value.pr s.value.at_ s.value.ep s.value.sz x.h x.hn x.hc x.a x.an x.ac x.s x.sn x.sc H _ ⟨fun e1 => ?_, fun e1 => ?_⟩
  · have ho : s.over = true := by
      cases ho : s.over with
      | true => rfl
      | false => unfold stt at e1; rw [ho] at e1; cases hf : s.fixed <;> simp [hf] at e1
    rw [hst, if_pos ho]
    exact ⟨⟨_, none, 0, 0, rfl, ⟨hI, hnok, r, x, rfl, hR, hS⟩, RdL.nil _ _ _, Sub.refl _⟩, fun _ => ⟨_, rfl⟩⟩
  · have ho : s.over = false := by
      cases ho : s.over with
      | false => rfl
      | true => rw [stt_over ho] at e1; cases e1
    rw [if_neg (by rw [ho]; decide)] at hst
    refine (raJudge_ok2 ho hI (hnok ho) hR hS).mono ?_
    rintro _ H39 ⟨⟨u, a, n, c, rfl, hRA, hrd, hs39⟩, hno⟩
    have hRA' := hRA
    obtain ⟨hI2, hnok2, r2, x2, hu, hR2, hS2⟩ := hRA'
    have hj := judge_cases s
    have hfo : (stt s.judge.1 != stt s) = (s.judge.1.over || (s.judge.1.fixed != s.fixed)) := by
      unfold stt
      rw [ho]
      cases h1 : s.judge.1.over <;> cases h2 : s.judge.1.fixed <;> cases h3 : s.fixed <;> first | rfl | simp
    refine ⟨_, _, _, _, _, _, _, _, _, _, _, _, _, _, _, _, _, _, _, _, _, _, _, _, _, _, _, _, _, _, _, _, _, _, _, _, _, a, n, c, by rw [hu], fun e2 => ?_, fun e2 => ?_⟩
    · rw [hfo] at e2
      rw [e2, if_pos rfl] at hst
      rw [hst, ← hu]
      exact ⟨⟨u, a, n, c, rfl, hRA, hrd, hs39⟩, hno⟩
    · rw [hfo] at e2
      rw [e2, if_neg (by decide)] at hst
      have ho2 : s.judge.1.over = false := by cases h1 : s.judge.1.over <;> simp [h1] at e2 ⊢
      have hlt : s.judge.1.late = if s.judge.1.tries = 0 then (s.judge.1.end_ false, []) else ({ s.judge.1 with tries := IntKind.i64.wrap (s.judge.1.tries - 1) }, againG s.judge.1.asks s.judge.1.G) := rfl
      rw [hlt] at hst
      have hal : r2.an ≤ 100000 := by rw [← hR2.asks.len]; exact hsm
      have hgl : r2.gn ≤ 100000 := by rw [← hR2.got.len]; have := hI2.len; omega
      generalize s.judge.1 = t at *
      refine (Rnd.refTick_ok (tries := t.tries) hR2 hgl hal).mono ?_
      rintro _ H81 hc
      rcases hc with ⟨h0, rfl, hH⟩ | ⟨h0, hs81, b, m, c, rfl, hrd2⟩
      · rw [hH]
        rw [if_pos h0] at hst
        rw [hst]
        refine ⟨_, _, _, _, _, _, _, _, _, _, _, _, _, _, rfl, fun _ => ?_, fun e => (by cases e)⟩
        exact ⟨⟨_, none, 0, 0, rfl, ⟨⟨hI2.pok, hI2.wt, hI2.gin, hI2.asc, hI2.okG, hI2.okS⟩, fun e => (by cases e), r2, x2, by rw [stt_over (s := t.end_ false) rfl, hnok2 ho2]; rfl, hR2, ⟨hS2.h, hS2.a, hS2.s⟩⟩, RdL.nil _ _ _, hs39⟩, fun _ => ⟨_, rfl⟩⟩
      · rw [if_neg h0] at hst
        rw [hst]
        refine ⟨_, _, _, _, _, _, _, _, _, _, _, _, _, _, rfl, fun e => (by cases e), fun _ => ?_⟩
        have hI3 := hI2.mono hs81
        have hS3 := hS2.mono hs81
        exact ⟨⟨_, b, m, c, rfl, ⟨⟨hI3.pok, hI3.wt, hI3.gin, hI3.asc, hI3.okG, hI3.okS⟩, hnok2, r2, x2, rfl, hR2.mono hs81, ⟨hS3.h, hS3.a, hS3.s⟩⟩, hrd2, hs39.trans hs81⟩, fun h => absurd (ho2.symm.trans h) (by decide)⟩
end Go.Agr
namespace Go.Agr
open Go.Vx Go.Vc Go.Proofs Go.Pln Go.Stl
open Go.Rnd (takesG insG froms againG RdR RV OkM AscG)
/-- A message without lists. -/
structure Bare (m : Msg) : Prop where
  who : m.2.2.2.2.2.2.2.2.2.2.1 = ⟨none, 0, 0, []⟩
  names : m.2.2.2.2.2.2.2.2.2.2.2.1 = ⟨none, 0, 0, []⟩
  data : m.2.2.2.2.2.2.2.2.2.2.2.2 = ⟨none, 0, 0, []⟩
theorem Bare.ok {m : Msg} (h : Bare m) (H : PHeap) : OkM H m := by
  obtain ⟨y1, y2, y3, y4, y5, y6, y7, y8, y9, y10, w, n, d⟩ := m
  obtain ⟨h1, h2, h3⟩ := h
  dsimp only at h1 h2 h3
  subst h1 h2 h3
  exact ⟨RdL.nil _ _ _, RdL.nil _ _ _, RdL.nil _ _ _, by simp, by simp, by simp⟩
structure Sml (s : St) : Prop where
  said : s.said.length ≤ 1000
  holders : s.holders.length ≤ 1000
  acks : s.acks.length ≤ 1000
  asks : s.asks.length ≤ 1000
  bare : ∀ m ∈ s.asks, Bare m
theorem bare_all {p : Plan} {b : Int} {nm : ByteArray} {m : Msg} (h : Bare m) : ∀ x ∈ askAll p b nm m, Bare x := fun x hx => by
  obtain ⟨i, _, rfl⟩ := List.mem_map.1 hx
  exact ⟨h.who, h.names, h.data⟩
theorem askAll_len (p : Plan) (b : Int) (nm : ByteArray) (m : Msg) : (askAll p b nm m).length = p.n.toNat := by unfold askAll; rw [List.length_map, ids_len]
theorem bare_fix (k : Int) (v : Val) : Bare (mfix k v) := ⟨rfl, rfl, rfl⟩
theorem bare_ask : Bare mask := ⟨rfl, rfl, rfl⟩
theorem pn_le {p : Plan} (h : p.ok = true) : p.n.toNat ≤ 256 := by
  have := (Plan.ok_iff.1 h).n2
  omega
theorem Sml.ask {s : St} {m : Msg} (hp : s.p.ok = true) (h1 : s.said.length ≤ 1000) (h2 : s.holders.length ≤ 1000) (h3 : s.acks.length ≤ 1000) (hm : Bare m) : Sml (s.ask m).1 ∧ (∀ x ∈ (s.ask m).2, Bare x) ∧ (s.ask m).2.length ≤ 1000 := by
  have hl := askAll_len s.p s.ballot s.name m
  have := pn_le hp
  exact ⟨⟨h1, h2, h3, by show (askAll s.p s.ballot s.name m).length ≤ 1000; omega, bare_all hm⟩, bare_all hm, by show (askAll s.p s.ballot s.name m).length ≤ 1000; omega⟩
/-- What a step leaves is short. -/
structure SmlR (r : St × List Msg) : Prop where
  s : Sml r.1
  bare : ∀ m ∈ r.2, Bare m
  len : r.2.length ≤ 1000
theorem SmlR.nil {s : St} (h : Sml s) : SmlR (s, []) := ⟨h, fun m hm => (by cases hm), Nat.zero_le _⟩
theorem Sml.fix {s : St} {v : Val} (hp : s.p.ok = true) (h1 : s.said.length ≤ 1000) (h2 : s.holders.length ≤ 1000) (h3 : s.acks.length ≤ 1000) : SmlR (s.fix v) :=
  let ⟨a, b, c⟩ := Sml.ask (s := { s with fixed := true, value := v }) (m := mfix s.mark v) hp h1 h2 h3 (bare_fix _ _)
  ⟨a, b, c⟩
theorem verd_len (p : Plan) (L : List Msg) : (verd p L).holders.length ≤ L.length := by
  unfold verd
  split
  · exact Nat.le_trans (hold_len _ _) (List.length_filter_le ..)
  · exact Nat.zero_le _
theorem Sml.judge {s : St} (h : Sml s) (hp : s.p.ok = true) (hg : s.G.length ≤ 1000) : SmlR s.judge := by
  have hv := verd_len s.p s.G
  have ha : (ackL s.G).length ≤ s.G.length := List.length_filter_le ..
  have hh := hold_len s.value (ackL s.G)
  have hc : Sml s.counted := ⟨h.said, by show (holdL s.value (ackL s.G)).length ≤ 1000; omega, by show ((ackL s.G).map from_).length ≤ 1000; rw [List.length_map]; omega, h.asks, h.bare⟩
  unfold St.judge
  split
  · unfold St.judge1
    split
    · exact .nil ⟨hc.said, hc.holders, hc.acks, hc.asks, hc.bare⟩
    · exact .nil hc
  · unfold St.judge0
    split
    · split
      · exact .nil ⟨hg, by show (verd s.p s.G).holders.length ≤ 1000; omega, h.acks, h.asks, h.bare⟩
      · exact Sml.fix hp hg h.holders h.acks
    · split
      · exact .nil ⟨h.said, h.holders, h.acks, h.asks, h.bare⟩
      · exact .nil h
theorem Sml.take {s : St} (h : Sml s) (hp : s.p.ok = true) (hg : s.G.length ≤ 256) (m : Msg) : SmlR (s.take m) := by
  have hs : Sml (s.got m) := ⟨h.said, h.holders, h.acks, h.asks, h.bare⟩
  unfold St.take
  split
  · exact .nil h
  · split
    · split
      · exact hs.judge hp (by show (insG s.G m).length ≤ 1000; rw [Rnd.ins_len]; omega)
      · exact .nil hs
    · exact .nil h
theorem Sml.tick {s : St} (h : Sml s) (hp : s.p.ok = true) (hg : s.G.length ≤ 256) : SmlR s.tick := by
  have hj := h.judge hp (by omega)
  unfold St.tick
  split
  · exact .nil h
  · split
    · exact hj
    · unfold St.late
      split
      · exact .nil ⟨hj.s.said, hj.s.holders, hj.s.acks, hj.s.asks, hj.s.bare⟩
      · refine ⟨⟨hj.s.said, hj.s.holders, hj.s.acks, hj.s.asks, hj.s.bare⟩, fun m hm => hj.s.bare m (List.mem_filter.1 hm).1, Nat.le_trans (List.length_filter_le ..) hj.s.asks⟩
end Go.Agr
namespace Go.Txt
open Go.Vx
def addL (l : List ByteArray) (s : ByteArray) : List ByteArray :=
  if (l[(l.takeWhile fun t => lessS t s).length]?).any (fun t => eqS t s) then l else l.take (l.takeWhile fun t => lessS t s).length ++ s :: l.drop (l.takeWhile fun t => lessS t s).length
def Rising (l : List ByteArray) : Prop := l.Pairwise fun a b => lessS a b = true
theorem takeWhile_all {α : Type} {p : α → Bool} : ∀ {l : List α}, (∀ x ∈ l, p x = true) → l.takeWhile p = l
  | [], _ => rfl
  | x :: xs, h => by
    rw [List.takeWhile_cons, if_pos (h x (by simp)), takeWhile_all fun y hy => h y (by simp [hy])]
theorem takeWhile_stop {α : Type} {p : α → Bool} {y : α} (hy : p y = false) : ∀ {l : List α}, (∀ x ∈ l, p x = true) → ∀ r, (l ++ y :: r).takeWhile p = l
  | [], _, r => by simp [hy]
  | x :: xs, h, r => by
    rw [List.cons_append, List.takeWhile_cons, if_pos (h x (by simp)), takeWhile_stop hy (fun y hy => h y (by simp [hy])) r]
end Go.Txt
namespace Go.Txt
open Go.Vx Go.Vc Go.Proofs
theorem tStr : ElemT Tryz.prog 49 9 1 16 := .of (by kernel_rfl)
abbrev sE : ByteArray → List Value := strE
theorem sLen (x : ByteArray) : (sE x).length = 1 := rfl
theorem sOne (x : ByteArray) : ∀ u ∈ sE x, u.oneCell' = true := fun u hu => by simp [strE] at hu; subst hu; rfl
theorem wrapS {i : Int} (h0 : 0 ≤ i) (h1 : i ≤ 1000000) : IntKind.i64.wrap (i + 1) = i + 1 := wrap64 (by omega) (by omega)
theorem lessS_cases {s t : ByteArray} {i : Nat} (h : s.toList.take i = t.toList.take i) (h1 : i ≤ s.size) (h2 : i ≤ t.size) :
    lessS s t = if i < s.size ∧ i < t.size then (if byteAt s i = byteAt t i then Op.bytesLess (s.toList.drop (i + 1)) (t.toList.drop (i + 1)) else decide (byteAt s i < byteAt t i)) else decide (s.size < t.size) := by
  unfold lessS
  rw [bytesLess_at _ _ i h (by rw [size_toList]; exact h1) (by rw [size_toList]; exact h2)]
  have hs := size_toList s
  have ht := size_toList t
  split
  · rename_i hh
    obtain ⟨a, ha, ea⟩ := byteAt_get hh.1
    obtain ⟨b, hb, eb⟩ := byteAt_get hh.2
    have da : s.toList.drop i = a :: s.toList.drop (i + 1) := by rw [List.drop_eq_getElem?_toList_append, ha]; rfl
    have db : t.toList.drop i = b :: t.toList.drop (i + 1) := by rw [List.drop_eq_getElem?_toList_append, hb]; rfl
    rw [da, db, ea, eb]
    simp only [Op.bytesLess]
    by_cases e : a = b
    · subst e; simp
    · have e' : ¬ (a.toNat : Int) = b.toNat := fun h => e (UInt8.toNat.inj (by omega))
      rw [if_neg e']
      have : (a < b) ↔ ((a.toNat : Int) < b.toNat) := by rw [UInt8.lt_iff_toNat_lt]; omega
      simp [e, this]
  · rename_i hh
    by_cases h3 : i < s.size
    · have : t.toList.drop i = [] := List.drop_of_length_le (by omega)
      rw [this, bytesLess_nil]
      have : ¬ s.size < t.size := by omega
      simp [this]
    · have : s.toList.drop i = [] := List.drop_of_length_le (by omega)
      rw [this]
      by_cases h4 : i < t.size
      · have h5 : s.size < t.size := by omega
        obtain ⟨b, hb, eb⟩ := byteAt_get h4
        have db : t.toList.drop i = b :: t.toList.drop (i + 1) := by rw [List.drop_eq_getElem?_toList_append, hb]; rfl
        rw [db]
        simp [Op.bytesLess, h5]
      · have : t.toList.drop i = [] := List.drop_of_length_le (by omega)
        rw [this]
        have : ¬ s.size < t.size := by omega
        simp [Op.bytesLess, this]
theorem refLessS_ok {s t : ByteArray} (hs : s.size ≤ 1000000) : Pure Tryz.prog 116 #[.string s, .string t] (.bool (lessS s t)) := fun H => by
  refine refLessS.vc s t H _ ⟨fun l H' => match l with | [.int _ i] => 0 ≤ i ∧ i ≤ s.size ∧ i ≤ t.size ∧ s.toList.take i.toNat = t.toList.take i.toNat ∧ H' = H | _ => False, fun l _ => match l with | [.int _ i] => (s.size - i).toNat | _ => 0, ⟨by omega, by omega, by omega, rfl, rfl⟩, ?_⟩
  rintro i H1 ⟨h0, h1, h2, h3, rfl⟩
  obtain ⟨i, rfl⟩ : ∃ j : Nat, i = j := ⟨i.toNat, by omega⟩
  rw [Int.toNat_natCast] at h3
  have key := lessS_cases h3 (by omega) (by omega)
  refine ⟨fun hc => ?_, fun hc => ?_⟩
  · have hc' : i < s.size ∧ i < t.size := by
      simp only [Bool.cond_eq_ite] at hc
      grind
    rw [if_pos hc'] at key
    have o1 : Ob (0 ≤ (i : Int) ∧ (i : Int) < s.size) := ⟨by omega, by omega⟩
    have o2 : Ob (0 ≤ (i : Int) ∧ (i : Int) < t.size) := ⟨by omega, by omega⟩
    refine ⟨_, Sub.refl _, o1, o2, fun hne => ⟨_, Sub.refl _, o1, o2, ?_, rfl⟩, fun he => ?_⟩
    · have hne' : ¬ byteAt s i = byteAt t i := by simpa using hne
      rw [key, if_neg hne']
    · have he' : byteAt s i = byteAt t i := by simpa using he
      rw [wrapS (by omega) (by omega)]
      refine ⟨⟨by omega, by omega, by omega, ?_, rfl⟩, ⟨by simp only; omega⟩⟩
      rw [show ((i : Int) + 1).toNat = i + 1 by omega, List.take_add_one, List.take_add_one, h3]
      obtain ⟨a, ha, ea⟩ := byteAt_get hc'.1
      obtain ⟨b, hb, eb⟩ := byteAt_get hc'.2
      rw [ea, eb] at he'
      rw [ha, hb, UInt8.toNat.inj (show a.toNat = b.toNat by omega)]
  · have hc' : ¬ (i < s.size ∧ i < t.size) := by
      simp only [Bool.cond_eq_ite] at hc
      grind
    rw [if_neg hc'] at key
    refine ⟨?_, rfl⟩
    rw [key]
    congr 1
    exact decide_eq_decide.2 (by omega)
theorem add_tail {H : PHeap} {oa : Option Addr} {n c i : Nat} {l : List ByteArray} {s : ByteArray} {K : Value → PHeap → Prop} (hl : RdL H sE 1 oa n l) (hi : i ≤ n) (hc : n ≤ c) (hn : n ≤ 100000)
    (hK : ∀ b m k H', RdL H' sE 1 b m (l.take i ++ s :: l.drop i) → m ≤ k → Sub H H' → K (.slice b m k) H') :
    ∀ (k14 : Nat), H k14 = none → Ob ((0 : Int) ≤ 0 ∧ 0 ≤ (i : Int) ∧ (i : Int) ≤ (c : Int)) ∧
      EvV Tryz.prog (Builtin.append_ #[49, 49] 49 #[.slice (at0 k14) 0 0, .slice (slA oa 0 c 1) ((i : Int).toNat - Int.toNat 0) (c - Int.toNat 0)]) (H.upd k14 (.cells #[] 9)) fun v15 H16 =>
        ∃ a17 k18 k19, v15 = Value.slice a17 k18 k19 ∧ ∀ (k20 : Nat), H16 k20 = none →
          EvV Tryz.prog (Builtin.append_ #[49, 49] 49 #[.slice a17 k18 k19, .slice (at0 k20) 1 1]) (H16.upd k20 (.cells #[.string s] 9)) fun v21 H22 =>
            ∃ a23 k24 k25, v21 = Value.slice a23 k24 k25 ∧ Ob (0 ≤ (i : Int) ∧ (i : Int) ≤ (n : Int) ∧ (n : Int) ≤ (c : Int)) ∧
              EvV Tryz.prog (Builtin.append_ #[49, 49] 49 #[.slice a23 k24 k25, .slice (slA oa i c 1) ((n : Int).toNat - (i : Int).toNat) (c - (i : Int).toNat)]) H22 fun v26 H27 =>
                ∃ a28 k29 k30, v26 = Value.slice a28 k29 k30 ∧ K (.slice a28 k29 k30) H27 := by
  intro k1 hk1
  refine ⟨⟨by omega, by omega, by omega⟩, ?_⟩
  simp only [slA_zero, Int.toNat_natCast, Int.toNat_zero, Nat.sub_zero]
  have hs1 := Sub.upd (.cells #[] 9 (0, 0)) hk1
  have ho1 := off_at0 hk1
  refine append_rd tStr (E := sE) (l := []) sLen (Owns.empty H k1 _ 1) ((hl.take hi).mono hs1) sOne (by simp [maxLen]; omega) (by omega) ?_
  intro b2 c2 H2 g2 hf2 hfr2
  rw [Nat.zero_add] at g2 ⊢
  rw [List.nil_append] at g2
  refine ⟨b2, i, c2, rfl, fun k3 hk3 => ?_⟩
  have hs2 := hf2.sub hs1 ho1
  have ho2 := hfr2.off hs1 ho1
  refine append_one tStr hk3 (E := sE) (x := s) sLen g2 rfl (sOne s) (by simp [maxLen]; omega) (by omega) ?_
  intro b4 c4 H4 g4 hf4 hfr4 _
  refine ⟨b4, i + 1, c4, rfl, ⟨by omega, by omega, by omega⟩, ?_⟩
  have hs4 := hf4.sub hs2 ho2
  have ho4 := hfr4.off hs2 ho2
  refine append_rd tStr (E := sE) sLen g4 ((hl.drop hi hc).mono hs4) sOne (by simp [maxLen]; omega) (by omega) ?_
  intro b5 c5 H5 g5 hf5 hfr5
  refine ⟨b5, _, c5, rfl, hK _ _ _ _ ?_ g5.le (hf5.sub hs4 ho4)⟩
  have := g5.rd (E := sE) (sz := 1) (by omega) sLen
  rwa [List.append_assoc] at this
theorem tw_len {l : List ByteArray} {s : ByteArray} {i : Nat} (h1 : ∀ j x, j < i → l[j]? = some x → lessS x s = true) (h2 : i ≤ l.length) (h3 : ∀ x, l[i]? = some x → lessS x s = false) : (l.takeWhile fun t => lessS t s).length = i := by
  have ha : ∀ x ∈ l.take i, lessS x s = true := fun x hx => by
    obtain ⟨j, hj⟩ := List.getElem?_of_mem hx
    rw [List.getElem?_take] at hj
    split at hj
    · exact h1 j x (by assumption) hj
    · cases hj
  by_cases h : i < l.length
  · have hd : l = l.take i ++ l[i] :: l.drop (i + 1) := by rw [List.getElem_cons_drop, List.take_append_drop]
    have := takeWhile_stop (p := fun t => lessS t s) (h3 _ (List.getElem?_eq_getElem h)) ha (l.drop (i + 1))
    rw [hd, this, List.length_take]
    omega
  · rw [List.take_of_length_le (by omega)] at ha
    rw [takeWhile_all ha]
    omega
/-- What 'Add' tells. -/
def AddQ (H : PHeap) (l : List ByteArray) (s : ByteArray) (v : Value) (H' : PHeap) : Prop := ∃ b m k, v = .slice b m k ∧ RdL H' sE 1 b m (addL l s) ∧ m ≤ k ∧ Sub H H'
theorem add_ok {H : PHeap} {oa : Option Addr} {n c : Nat} {l : List ByteArray} {s : ByteArray} (hl : RdL H sE 1 oa n l) (hc : n ≤ c) (hn : n ≤ 100000) (hS : ∀ x ∈ l, x.size ≤ 1000000) :
    Triple Tryz.prog 117 #[.slice oa n c, .string s] H (AddQ H l s) := by
  have hll := hl.len
  refine refAdd.vc oa n c s H _ ⟨fun t H' => match t with | [.int _ i] => 0 ≤ i ∧ i ≤ n ∧ H' = H ∧ (∀ j x, j < i.toNat → l[j]? = some x → lessS x s = true) | _ => False, fun t _ => match t with | [.int _ i] => (n - i).toNat | _ => 0, ⟨by omega, by omega, rfl, fun j x hj => by simp at hj⟩, ?_⟩
  rintro i H1 ⟨i0, i1, rfl, hlt⟩
  obtain ⟨i, rfl⟩ : ∃ j : Nat, i = j := ⟨i.toNat, by omega⟩
  rw [Int.toNat_natCast] at hlt
  refine ⟨fun hi => ?_, fun hi => ?_⟩
  · have hi' : i < n := by simpa using hi
    obtain ⟨x, hx, hxr⟩ := hl.ex (i := (i : Int)) (by omega) (by omega)
    rw [Int.toNat_natCast] at hx
    refine ⟨hl.ob (by omega) (by omega), x, hxr, (refLessS_ok (hS x (List.mem_of_getElem? hx))).use ⟨_, rfl, fun hb => ?_, fun hb => ?_⟩⟩
    · rw [wrapS (by omega) (by omega)]
      refine ⟨⟨by omega, by omega, rfl, fun j y hj hy => ?_⟩, ⟨by simp only; omega⟩⟩
      by_cases e : j = i
      · subst e
        rw [hx] at hy
        cases hy
        exact hb
      · exact hlt j y (by omega) hy
    · have htw := tw_len hlt (by omega) (fun y hy => by rw [hx] at hy; cases hy; exact hb)
      refine ⟨fun _ => ⟨hl.ob (by omega) (by omega), x, hxr, fun he => ?_, fun he => ?_⟩, fun h => by rw [hi] at h; simp at h⟩
      · refine ⟨oa, n, c, rfl, ?_, hc, Sub.refl _⟩
        have : addL l s = l := by unfold addL; rw [htw, hx]; simp [he]
        rw [this]; exact hl
      · refine add_tail (i := i) (K := AddQ H1 l s) hl (by omega) hc hn fun b m k H' g1 g2 g3 => ⟨b, m, k, rfl, ?_, g2, g3⟩
        have : addL l s = l.take i ++ s :: l.drop i := by unfold addL; rw [htw, hx]; simp [he]
        rw [this]; exact g1
  · have hi' : i = n := by
      have : ¬ i < n := by simpa using hi
      omega
    refine ⟨fun h => by rw [hi] at h; simp at h, fun _ => ?_⟩
    have htw := tw_len (s := s) hlt (by omega) (fun y hy => by have := (List.getElem?_eq_some_iff.1 hy).1; omega)
    refine add_tail (i := i) (K := AddQ H1 l s) hl (by omega) hc hn fun b m k H' g1 g2 g3 => ⟨b, m, k, rfl, ?_, g2, g3⟩
    have : addL l s = l.take i ++ s :: l.drop i := by unfold addL; rw [htw, List.getElem?_eq_none (by omega)]; simp
    rw [this]; exact g1
end Go.Txt
