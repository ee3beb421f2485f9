/- What is to be shown of each function, in its normal form. Printed by a program of this session's, checked by the kernel. -/
import Derived.Test.YthcfmcmmmpfjoaaE2
import Derived.Test.YthcfmcmmmpfjoaaProg
set_option linter.unusedVariables false
set_option maxRecDepth 100000
namespace Go.Vc
open Go.Vx Go
def raSettle.cx : Cx := ⟨[10], [], [], []⟩
def raFix.cx : Cx := ⟨[], [], [], []⟩
def raAll.cx : Cx := ⟨[], [(3, [5, 6], [3])], [], []⟩
def raFixM.cx : Cx := ⟨[2], [], [], []⟩
def raJudge.cx : Cx := ⟨[], [(19, [6], [1])], [], []⟩
def raTakes.cx : Cx := ⟨[], [], [], []⟩
def raTake.cx : Cx := ⟨[], [], [], []⟩
def raTick.cx : Cx := ⟨[], [], [], []⟩

theorem raSettle.vc (n1 : Int) (n2 : Int) (n3 : Int) (n4 : Int) (n5 : Int) (n6 : Int) (n7 : Int) (s8 : ByteArray) (b9 : Bool) (H : PHeap) (Q : Value → PHeap → Prop)
    (h : ∀ (k10 : Nat),
  H k10 = none →
    ∃ H11,
      Writes
        (H.upd k10
        (Obj.cells
        #[Value.int IntKind.i64 0, Value.int IntKind.i64 0, Value.int IntKind.i64 0, Value.int IntKind.i64 0, Value.int IntKind.i64 0, Value.int IntKind.i64 0, Value.int IntKind.i64 0,
        Value.string ({ data := #[] } : ByteArray), Value.bool false, Value.bool false, Value.int IntKind.i64 0, Value.int IntKind.i64 0, Value.slice none 0 0, Value.slice none 0 0, Value.slice none 0 0,
        Value.int IntKind.i64 0, Value.bool false, Value.bool false, Value.bool false, Value.int IntKind.i64 0, Value.int IntKind.i64 0, Value.int IntKind.i64 0, Value.slice none 0 0,
        Value.slice none 0 0, Value.slice none 0 0]
        51))
        H11 (at0 k10)
        [Value.int IntKind.i64 n1, Value.int IntKind.i64 n2, Value.int IntKind.i64 n3, Value.int IntKind.i64 n4, Value.int IntKind.i64 n5, Value.int IntKind.i64 n6, Value.int IntKind.i64 n7,
        Value.string s8, Value.bool b9, Value.bool false, Value.int IntKind.i64 0, Value.int IntKind.i64 (IntKind.i64.wrap (2 * n7)), Value.slice none 0 0, Value.slice none 0 0,
        Value.slice none 0 0, Value.int IntKind.i64 0, Value.bool false, Value.bool false, Value.bool false, Value.int IntKind.i64 0, Value.int IntKind.i64 0, Value.int IntKind.i64 0,
        Value.slice none 0 0, Value.slice none 0 0, Value.slice none 0 0] ∧
        Triple Proofs.Try.prog 6
        #[Value.agg #[Value.int IntKind.i64 n1, Value.int IntKind.i64 n2, Value.int IntKind.i64 n3, Value.int IntKind.i64 n4, Value.int IntKind.i64 n5, Value.int IntKind.i64 n6]] H11 fun v12 H13 =>
        ∃ b14,
        v12 = Value.bool b14 ∧
        ((!b14) = true →
        Ob (at0 k10 ≠ none) ∧
        ∃ H15,
        Writes H13 H15 (fldA (at0 k10) 10) [Value.int IntKind.i64 2] ∧
        ∃ n16 n17 n18 n19 n20 n21 n22 s23 b24 b25 n26 n27 a28 k29 k30 a31 k32 k33 a34 k35 k36 n37 b38 b39 b40 n41 n42 n43 a44 k45 k46 a47 k48 k49 a50 k51 k52,
        Reads H15 (at0 k10)
        [Value.int IntKind.i64 n16, Value.int IntKind.i64 n17, Value.int IntKind.i64 n18, Value.int IntKind.i64 n19, Value.int IntKind.i64 n20, Value.int IntKind.i64 n21,
        Value.int IntKind.i64 n22, Value.string s23, Value.bool b24, Value.bool b25, Value.int IntKind.i64 n26, Value.int IntKind.i64 n27, Value.slice a28 k29 k30,
        Value.slice a31 k32 k33, Value.slice a34 k35 k36, Value.int IntKind.i64 n37, Value.bool b38, Value.bool b39, Value.bool b40, Value.int IntKind.i64 n41,
        Value.int IntKind.i64 n42, Value.int IntKind.i64 n43, Value.slice a44 k45 k46, Value.slice a47 k48 k49, Value.slice a50 k51 k52] ∧
        Q
        (Value.tuple
        #[Value.agg
        #[Value.int IntKind.i64 n16, Value.int IntKind.i64 n17, Value.int IntKind.i64 n18, Value.int IntKind.i64 n19, Value.int IntKind.i64 n20, Value.int IntKind.i64 n21,
        Value.int IntKind.i64 n22, Value.string s23, Value.bool b24, Value.bool b25, Value.int IntKind.i64 n26, Value.int IntKind.i64 n27, Value.slice a28 k29 k30,
        Value.slice a31 k32 k33, Value.slice a34 k35 k36, Value.int IntKind.i64 n37, Value.bool b38, Value.bool b39, Value.bool b40, Value.int IntKind.i64 n41,
        Value.int IntKind.i64 n42, Value.int IntKind.i64 n43, Value.slice a44 k45 k46, Value.slice a47 k48 k49, Value.slice a50 k51 k52],
        Value.slice none 0 0])
        H15) ∧
        ((!b14) = false →
        Triple Proofs.Try.prog 52
        #[Value.agg #[Value.int IntKind.i64 n1, Value.int IntKind.i64 n2, Value.int IntKind.i64 n3, Value.int IntKind.i64 n4, Value.int IntKind.i64 n5, Value.int IntKind.i64 n6],
        Value.agg
        #[Value.int IntKind.i64 1, Value.int IntKind.i64 0, Value.int IntKind.i64 0, Value.int IntKind.i64 n7, Value.string s8, Value.int IntKind.i64 0, Value.int IntKind.i64 0,
        Value.int IntKind.i64 0, Value.int IntKind.i64 0, Value.int IntKind.i64 0, Value.slice none 0 0, Value.slice none 0 0, Value.slice none 0 0]]
        H13 fun v53 H54 =>
        ∃ a55 k56 k57,
        v53 = Value.slice a55 k56 k57 ∧
        ∃ H58,
        Vx.Sub H58 H54 ∧
        Triple Proofs.Try.prog 54
        #[Value.agg #[Value.int IntKind.i64 n1, Value.int IntKind.i64 n2, Value.int IntKind.i64 n3, Value.int IntKind.i64 n4, Value.int IntKind.i64 n5, Value.int IntKind.i64 n6]]
        H54 fun v59 H60 =>
        ∃ a61 k62 k63,
        v59 = Value.slice a61 k62 k63 ∧
        Vx.Sub H58 H60 ∧
        Triple Proofs.Try.prog 53 #[Value.int IntKind.i64 n6, Value.slice a55 k56 k57, Value.slice a61 k62 k63] H60 fun v64 H65 =>
        ∃ a66 k67 k68 a69 k70 k71 a72 k73 k74 n75,
        v64 = Value.agg #[Value.slice a66 k67 k68, Value.slice a69 k70 k71, Value.slice a72 k73 k74, Value.int IntKind.i64 n75] ∧
        Ob (at0 k10 ≠ none) ∧
        ∃ H76,
        Writes H65 H76 (fldA (at0 k10) 12)
        [Value.slice a66 k67 k68, Value.slice a69 k70 k71, Value.slice a72 k73 k74, Value.int IntKind.i64 n75] ∧
        ∃ n77 n78 n79 n80 n81 n82 n83 s84 b85 b86 n87 n88 a89 k90 k91 a92 k93 k94 a95 k96 k97 n98 b99 b100 b101 n102 n103 n104 a105 k106 k107 a108 k109 k110
        a111 k112 k113,
        Reads H76 (at0 k10)
        [Value.int IntKind.i64 n77, Value.int IntKind.i64 n78, Value.int IntKind.i64 n79, Value.int IntKind.i64 n80, Value.int IntKind.i64 n81,
        Value.int IntKind.i64 n82, Value.int IntKind.i64 n83, Value.string s84, Value.bool b85, Value.bool b86, Value.int IntKind.i64 n87,
        Value.int IntKind.i64 n88, Value.slice a89 k90 k91, Value.slice a92 k93 k94, Value.slice a95 k96 k97, Value.int IntKind.i64 n98, Value.bool b99,
        Value.bool b100, Value.bool b101, Value.int IntKind.i64 n102, Value.int IntKind.i64 n103, Value.int IntKind.i64 n104,
        Value.slice a105 k106 k107, Value.slice a108 k109 k110, Value.slice a111 k112 k113] ∧
        Q
        (Value.tuple
        #[Value.agg
        #[Value.int IntKind.i64 n77, Value.int IntKind.i64 n78, Value.int IntKind.i64 n79, Value.int IntKind.i64 n80, Value.int IntKind.i64 n81,
        Value.int IntKind.i64 n82, Value.int IntKind.i64 n83, Value.string s84, Value.bool b85, Value.bool b86, Value.int IntKind.i64 n87,
        Value.int IntKind.i64 n88, Value.slice a89 k90 k91, Value.slice a92 k93 k94, Value.slice a95 k96 k97, Value.int IntKind.i64 n98,
        Value.bool b99, Value.bool b100, Value.bool b101, Value.int IntKind.i64 n102, Value.int IntKind.i64 n103, Value.int IntKind.i64 n104,
        Value.slice a105 k106 k107, Value.slice a108 k109 k110, Value.slice a111 k112 k113],
        Value.slice a55 k56 k57])
        H76)) :
    Triple Go.Proofs.Try.prog 30 ([Value.agg #[Value.int IntKind.i64 n1, Value.int IntKind.i64 n2, Value.int IntKind.i64 n3, Value.int IntKind.i64 n4, Value.int IntKind.i64 n5, Value.int IntKind.i64 n6], Value.int IntKind.i64 n7,
  Value.string s8, Value.bool b9]).toArray H Q :=
  Triple.of_vc raSettle.cx (by kernel_rfl) h

theorem raFix.vc (n1 : Int) (n2 : Int) (n3 : Int) (n4 : Int) (n5 : Int) (n6 : Int) (n7 : Int) (s8 : ByteArray) (b9 : Bool) (n10 : Int) (n11 : Int) (n12 : Int) (b13 : Bool) (H : PHeap) (Q : Value → PHeap → Prop)
    (h : Triple Proofs.Try.prog 6 #[Value.agg #[Value.int IntKind.i64 n1, Value.int IntKind.i64 n2, Value.int IntKind.i64 n3, Value.int IntKind.i64 n4, Value.int IntKind.i64 n5, Value.int IntKind.i64 n6]] H
  fun v14 H15 =>
  ∃ b16,
    v14 = Value.bool b16 ∧
      ((!b16) = true →
        Q
        (Value.tuple
        #[Value.agg
        #[Value.int IntKind.i64 n1, Value.int IntKind.i64 n2, Value.int IntKind.i64 n3, Value.int IntKind.i64 n4, Value.int IntKind.i64 n5, Value.int IntKind.i64 n6,
        Value.int IntKind.i64 n7, Value.string s8, Value.bool false, Value.bool b13, Value.int IntKind.i64 2, Value.int IntKind.i64 (IntKind.i64.wrap (IntKind.i64.wrap (2 * n7) + 1)),
        Value.slice none 0 0, Value.slice none 0 0, Value.slice none 0 0, Value.int IntKind.i64 0, Value.bool false, Value.bool false, Value.bool false, Value.int IntKind.i64 0,
        Value.int IntKind.i64 0, Value.int IntKind.i64 0, Value.slice none 0 0, Value.slice none 0 0, Value.slice none 0 0],
        Value.slice none 0 0])
        H15) ∧
        ((!b16) = false →
        Triple Proofs.Try.prog 51
        #[Value.agg
        #[Value.int IntKind.i64 n1, Value.int IntKind.i64 n2, Value.int IntKind.i64 n3, Value.int IntKind.i64 n4, Value.int IntKind.i64 n5, Value.int IntKind.i64 n6, Value.int IntKind.i64 n7,
        Value.string s8, Value.bool false, Value.bool b13, Value.int IntKind.i64 0, Value.int IntKind.i64 (IntKind.i64.wrap (IntKind.i64.wrap (2 * n7) + 1)), Value.slice none 0 0,
        Value.slice none 0 0, Value.slice none 0 0, Value.int IntKind.i64 0, Value.bool false, Value.bool false, Value.bool false, Value.int IntKind.i64 0, Value.int IntKind.i64 0,
        Value.int IntKind.i64 0, Value.slice none 0 0, Value.slice none 0 0, Value.slice none 0 0],
        Value.agg #[Value.bool b9, Value.int IntKind.i64 n10, Value.int IntKind.i64 n11, Value.int IntKind.i64 n12]]
        H15 fun v17 H18 =>
        ∃ n19 n20 n21 n22 n23 n24 n25 s26 b27 b28 n29 n30 a31 k32 k33 a34 k35 k36 a37 k38 k39 n40 b41 b42 b43 n44 n45 n46 a47 k48 k49 a50 k51 k52 a53 k54 k55 a56 k57 k58,
        v17 =
        Value.tuple
        #[Value.agg
        #[Value.int IntKind.i64 n19, Value.int IntKind.i64 n20, Value.int IntKind.i64 n21, Value.int IntKind.i64 n22, Value.int IntKind.i64 n23, Value.int IntKind.i64 n24,
        Value.int IntKind.i64 n25, Value.string s26, Value.bool b27, Value.bool b28, Value.int IntKind.i64 n29, Value.int IntKind.i64 n30, Value.slice a31 k32 k33,
        Value.slice a34 k35 k36, Value.slice a37 k38 k39, Value.int IntKind.i64 n40, Value.bool b41, Value.bool b42, Value.bool b43, Value.int IntKind.i64 n44,
        Value.int IntKind.i64 n45, Value.int IntKind.i64 n46, Value.slice a47 k48 k49, Value.slice a50 k51 k52, Value.slice a53 k54 k55],
        Value.slice a56 k57 k58] ∧
        Q
        (Value.tuple
        #[Value.agg
        #[Value.int IntKind.i64 n19, Value.int IntKind.i64 n20, Value.int IntKind.i64 n21, Value.int IntKind.i64 n22, Value.int IntKind.i64 n23, Value.int IntKind.i64 n24,
        Value.int IntKind.i64 n25, Value.string s26, Value.bool b27, Value.bool b28, Value.int IntKind.i64 n29, Value.int IntKind.i64 n30, Value.slice a31 k32 k33,
        Value.slice a34 k35 k36, Value.slice a37 k38 k39, Value.int IntKind.i64 n40, Value.bool b41, Value.bool b42, Value.bool b43, Value.int IntKind.i64 n44,
        Value.int IntKind.i64 n45, Value.int IntKind.i64 n46, Value.slice a47 k48 k49, Value.slice a50 k51 k52, Value.slice a53 k54 k55],
        Value.slice a56 k57 k58])
        H18)) :
    Triple Go.Proofs.Try.prog 29 ([Value.agg #[Value.int IntKind.i64 n1, Value.int IntKind.i64 n2, Value.int IntKind.i64 n3, Value.int IntKind.i64 n4, Value.int IntKind.i64 n5, Value.int IntKind.i64 n6], Value.int IntKind.i64 n7,
  Value.string s8, Value.agg #[Value.bool b9, Value.int IntKind.i64 n10, Value.int IntKind.i64 n11, Value.int IntKind.i64 n12], Value.bool b13]).toArray H Q :=
  Triple.of_vc raFix.cx (by kernel_rfl) h

theorem raAll.vc (n1 : Int) (n2 : Int) (n3 : Int) (n4 : Int) (n5 : Int) (n6 : Int) (n7 : Int) (n8 : Int) (n9 : Int) (n10 : Int) (s11 : ByteArray) (n12 : Int) (n13 : Int) (n14 : Int) (n15 : Int) (n16 : Int) (a17 : Option Addr) (k18 : Nat) (k19 : Nat) (a20 : Option Addr) (k21 : Nat) (k22 : Nat) (a23 : Option Addr) (k24 : Nat) (k25 : Nat) (H : PHeap) (Q : Value → PHeap → Prop)
    (h : ∃ (R26 : Rl) (M27 : Mu),
  R26
      [Value.slice none 0 0, Value.int IntKind.i64 1,
        Value.agg
        #[Value.int IntKind.i64 n7, Value.int IntKind.i64 n8, Value.int IntKind.i64 n9, Value.int IntKind.i64 n10, Value.string s11, Value.int IntKind.i64 n12, Value.int IntKind.i64 n13,
        Value.int IntKind.i64 n14, Value.int IntKind.i64 n15, Value.int IntKind.i64 n16, Value.slice a17 k18 k19, Value.slice a20 k21 k22, Value.slice a23 k24 k25]]
      H ∧
    ∀ (a28 : Option Addr) (k29 k30 : Nat) (n31 n32 n33 n34 n35 : Int) (s36 : ByteArray) (n37 n38 n39 n40 n41 : Int) (a42 : Option Addr) (k43 k44 : Nat) (a45 : Option Addr) (k46 k47 : Nat)
      (a48 : Option Addr) (k49 k50 : Nat) (H51 : PHeap),
      R26
        [Value.slice a28 k29 k30, Value.int IntKind.i64 n31,
        Value.agg
        #[Value.int IntKind.i64 n32, Value.int IntKind.i64 n33, Value.int IntKind.i64 n34, Value.int IntKind.i64 n35, Value.string s36, Value.int IntKind.i64 n37, Value.int IntKind.i64 n38,
        Value.int IntKind.i64 n39, Value.int IntKind.i64 n40, Value.int IntKind.i64 n41, Value.slice a42 k43 k44, Value.slice a45 k46 k47, Value.slice a48 k49 k50]]
        H51 →
        (decide (n31 ≤ n1) = true →
        ∀ (k52 : Nat),
        H51 k52 = none →
        EvV Proofs.Try.prog (Builtin.append_ #[24, 24] 24 #[Value.slice a28 k29 k30, Value.slice (at0 k52) 1 1])
        (H51.upd k52
        (Obj.cells
        #[Value.int IntKind.i64 n32, Value.int IntKind.i64 n33, Value.int IntKind.i64 n31, Value.int IntKind.i64 n35, Value.string s36, Value.int IntKind.i64 n37,
        Value.int IntKind.i64 n38, Value.int IntKind.i64 n39, Value.int IntKind.i64 n40, Value.int IntKind.i64 n41, Value.slice a42 k43 k44, Value.slice a45 k46 k47,
        Value.slice a48 k49 k50]
        32))
        fun v53 H54 =>
        ∃ a55 k56 k57,
        v53 = Value.slice a55 k56 k57 ∧
        R26
        [Value.slice a55 k56 k57, Value.int IntKind.i64 (IntKind.i64.wrap (n31 + 1)),
        Value.agg
        #[Value.int IntKind.i64 n32, Value.int IntKind.i64 n33, Value.int IntKind.i64 n31, Value.int IntKind.i64 n35, Value.string s36, Value.int IntKind.i64 n37,
        Value.int IntKind.i64 n38, Value.int IntKind.i64 n39, Value.int IntKind.i64 n40, Value.int IntKind.i64 n41, Value.slice a42 k43 k44, Value.slice a45 k46 k47,
        Value.slice a48 k49 k50]]
        H54 ∧
        Less
        (M27
        [Value.slice a55 k56 k57, Value.int IntKind.i64 (IntKind.i64.wrap (n31 + 1)),
        Value.agg
        #[Value.int IntKind.i64 n32, Value.int IntKind.i64 n33, Value.int IntKind.i64 n31, Value.int IntKind.i64 n35, Value.string s36, Value.int IntKind.i64 n37,
        Value.int IntKind.i64 n38, Value.int IntKind.i64 n39, Value.int IntKind.i64 n40, Value.int IntKind.i64 n41, Value.slice a42 k43 k44, Value.slice a45 k46 k47,
        Value.slice a48 k49 k50]]
        H54)
        (M27
        [Value.slice a28 k29 k30, Value.int IntKind.i64 n31,
        Value.agg
        #[Value.int IntKind.i64 n32, Value.int IntKind.i64 n33, Value.int IntKind.i64 n34, Value.int IntKind.i64 n35, Value.string s36, Value.int IntKind.i64 n37,
        Value.int IntKind.i64 n38, Value.int IntKind.i64 n39, Value.int IntKind.i64 n40, Value.int IntKind.i64 n41, Value.slice a42 k43 k44, Value.slice a45 k46 k47,
        Value.slice a48 k49 k50]]
        H51)) ∧
        (decide (n31 ≤ n1) = false → Q (Value.slice a28 k29 k30) H51)) :
    Triple Go.Proofs.Try.prog 52 ([Value.agg #[Value.int IntKind.i64 n1, Value.int IntKind.i64 n2, Value.int IntKind.i64 n3, Value.int IntKind.i64 n4, Value.int IntKind.i64 n5, Value.int IntKind.i64 n6],
  Value.agg
    #[Value.int IntKind.i64 n7, Value.int IntKind.i64 n8, Value.int IntKind.i64 n9, Value.int IntKind.i64 n10, Value.string s11, Value.int IntKind.i64 n12, Value.int IntKind.i64 n13,
      Value.int IntKind.i64 n14, Value.int IntKind.i64 n15, Value.int IntKind.i64 n16, Value.slice a17 k18 k19, Value.slice a20 k21 k22, Value.slice a23 k24 k25]]).toArray H Q :=
  Triple.of_vc raAll.cx (by kernel_rfl) h

theorem raFixM.vc (n1 : Int) (n2 : Int) (n3 : Int) (n4 : Int) (n5 : Int) (n6 : Int) (n7 : Int) (s8 : ByteArray) (b9 : Bool) (b10 : Bool) (n11 : Int) (n12 : Int) (a13 : Option Addr) (k14 : Nat) (k15 : Nat) (a16 : Option Addr) (k17 : Nat) (k18 : Nat) (a19 : Option Addr) (k20 : Nat) (k21 : Nat) (n22 : Int) (b23 : Bool) (b24 : Bool) (b25 : Bool) (n26 : Int) (n27 : Int) (n28 : Int) (a29 : Option Addr) (k30 : Nat) (k31 : Nat) (a32 : Option Addr) (k33 : Nat) (k34 : Nat) (a35 : Option Addr) (k36 : Nat) (k37 : Nat) (b38 : Bool) (n39 : Int) (n40 : Int) (n41 : Int) (H : PHeap) (Q : Value → PHeap → Prop)
    (h : ∀ (k42 : Nat),
  H k42 = none →
    Ob (at0 k42 ≠ none) ∧
      ∃ H43,
        Writes
        (H.upd k42
        (Obj.cells
        #[Value.int IntKind.i64 n1, Value.int IntKind.i64 n2, Value.int IntKind.i64 n3, Value.int IntKind.i64 n4, Value.int IntKind.i64 n5, Value.int IntKind.i64 n6, Value.int IntKind.i64 n7,
        Value.string s8, Value.bool b9, Value.bool b10, Value.int IntKind.i64 n11, Value.int IntKind.i64 n12, Value.slice a13 k14 k15, Value.slice a16 k17 k18, Value.slice a19 k20 k21,
        Value.int IntKind.i64 n22, Value.bool b23, Value.bool b24, Value.bool b25, Value.int IntKind.i64 n26, Value.int IntKind.i64 n27, Value.int IntKind.i64 n28, Value.slice a29 k30 k31,
        Value.slice a32 k33 k34, Value.slice a35 k36 k37]
        51))
        H43 (fldA (at0 k42) 10) [Value.int IntKind.i64 1] ∧
        Ob (at0 k42 ≠ none) ∧
        ∃ H44,
        Writes H43 H44 (fldA (at0 k42) 17) [Value.bool true] ∧
        Ob (at0 k42 ≠ none) ∧
        ∃ H45,
        Writes H44 H45 (fldA (at0 k42) 18) [Value.bool b38, Value.int IntKind.i64 n39, Value.int IntKind.i64 n40, Value.int IntKind.i64 n41] ∧
        Ob (at0 k42 ≠ none) ∧
        ∃ n46,
        Reads H45 (fldA (at0 k42) 6) [Value.int IntKind.i64 n46] ∧
        Ob (at0 k42 ≠ none) ∧
        ∃ s47,
        Reads H45 (fldA (at0 k42) 7) [Value.string s47] ∧
        Ob (at0 k42 ≠ none) ∧
        ∃ n48,
        Reads H45 (fldA (at0 k42) 11) [Value.int IntKind.i64 n48] ∧
        (b38 = true →
        Ob (at0 k42 ≠ none) ∧
        ∃ n49 n50 n51 n52 n53 n54,
        Reads H45 (fldA (at0 k42) 0)
        [Value.int IntKind.i64 n49, Value.int IntKind.i64 n50, Value.int IntKind.i64 n51, Value.int IntKind.i64 n52, Value.int IntKind.i64 n53,
        Value.int IntKind.i64 n54] ∧
        Triple Proofs.Try.prog 52
        #[Value.agg
        #[Value.int IntKind.i64 n49, Value.int IntKind.i64 n50, Value.int IntKind.i64 n51, Value.int IntKind.i64 n52, Value.int IntKind.i64 n53,
        Value.int IntKind.i64 n54],
        Value.agg
        #[Value.int IntKind.i64 4, Value.int IntKind.i64 0, Value.int IntKind.i64 0, Value.int IntKind.i64 n46, Value.string s47,
        Value.int IntKind.i64 n39, Value.int IntKind.i64 n40, Value.int IntKind.i64 n48, Value.int IntKind.i64 n41, Value.int IntKind.i64 1,
        Value.slice none 0 0, Value.slice none 0 0, Value.slice none 0 0]]
        H45 fun v55 H56 =>
        ∃ a57 k58 k59,
        v55 = Value.slice a57 k58 k59 ∧
        ∃ H60,
        Vx.Sub H60 H56 ∧
        Ob (at0 k42 ≠ none) ∧
        Ob (fldA (at0 k42) 0 ≠ none) ∧
        ∃ n61,
        Reads H60 (fldA (fldA (at0 k42) 0) 5) [Value.int IntKind.i64 n61] ∧
        Ob (at0 k42 ≠ none) ∧
        ∃ n62 n63 n64 n65 n66 n67,
        Reads H60 (fldA (at0 k42) 0)
        [Value.int IntKind.i64 n62, Value.int IntKind.i64 n63, Value.int IntKind.i64 n64, Value.int IntKind.i64 n65,
        Value.int IntKind.i64 n66, Value.int IntKind.i64 n67] ∧
        Triple Proofs.Try.prog 54
        #[Value.agg
        #[Value.int IntKind.i64 n62, Value.int IntKind.i64 n63, Value.int IntKind.i64 n64, Value.int IntKind.i64 n65,
        Value.int IntKind.i64 n66, Value.int IntKind.i64 n67]]
        H56 fun v68 H69 =>
        ∃ a70 k71 k72,
        v68 = Value.slice a70 k71 k72 ∧
        Vx.Sub H60 H69 ∧
        Triple Proofs.Try.prog 53 #[Value.int IntKind.i64 n61, Value.slice a57 k58 k59, Value.slice a70 k71 k72] H69
        fun v73 H74 =>
        ∃ a75 k76 k77 a78 k79 k80 a81 k82 k83 n84,
        v73 =
        Value.agg
        #[Value.slice a75 k76 k77, Value.slice a78 k79 k80, Value.slice a81 k82 k83, Value.int IntKind.i64 n84] ∧
        Ob (at0 k42 ≠ none) ∧
        ∃ H85,
        Writes H74 H85 (fldA (at0 k42) 12)
        [Value.slice a75 k76 k77, Value.slice a78 k79 k80, Value.slice a81 k82 k83, Value.int IntKind.i64 n84] ∧
        ∃ n86 n87 n88 n89 n90 n91 n92 s93 b94 b95 n96 n97 a98 k99 k100 a101 k102 k103 a104 k105 k106 n107 b108
        b109 b110 n111 n112 n113 a114 k115 k116 a117 k118 k119 a120 k121 k122,
        Reads H85 (at0 k42)
        [Value.int IntKind.i64 n86, Value.int IntKind.i64 n87, Value.int IntKind.i64 n88,
        Value.int IntKind.i64 n89, Value.int IntKind.i64 n90, Value.int IntKind.i64 n91,
        Value.int IntKind.i64 n92, Value.string s93, Value.bool b94, Value.bool b95,
        Value.int IntKind.i64 n96, Value.int IntKind.i64 n97, Value.slice a98 k99 k100,
        Value.slice a101 k102 k103, Value.slice a104 k105 k106, Value.int IntKind.i64 n107,
        Value.bool b108, Value.bool b109, Value.bool b110, Value.int IntKind.i64 n111,
        Value.int IntKind.i64 n112, Value.int IntKind.i64 n113, Value.slice a114 k115 k116,
        Value.slice a117 k118 k119, Value.slice a120 k121 k122] ∧
        Q
        (Value.tuple
        #[Value.agg
        #[Value.int IntKind.i64 n86, Value.int IntKind.i64 n87, Value.int IntKind.i64 n88,
        Value.int IntKind.i64 n89, Value.int IntKind.i64 n90, Value.int IntKind.i64 n91,
        Value.int IntKind.i64 n92, Value.string s93, Value.bool b94, Value.bool b95,
        Value.int IntKind.i64 n96, Value.int IntKind.i64 n97, Value.slice a98 k99 k100,
        Value.slice a101 k102 k103, Value.slice a104 k105 k106, Value.int IntKind.i64 n107,
        Value.bool b108, Value.bool b109, Value.bool b110, Value.int IntKind.i64 n111,
        Value.int IntKind.i64 n112, Value.int IntKind.i64 n113, Value.slice a114 k115 k116,
        Value.slice a117 k118 k119, Value.slice a120 k121 k122],
        Value.slice a57 k58 k59])
        H85) ∧
        (b38 = false →
        Ob (at0 k42 ≠ none) ∧
        ∃ n123 n124 n125 n126 n127 n128,
        Reads H45 (fldA (at0 k42) 0)
        [Value.int IntKind.i64 n123, Value.int IntKind.i64 n124, Value.int IntKind.i64 n125, Value.int IntKind.i64 n126, Value.int IntKind.i64 n127,
        Value.int IntKind.i64 n128] ∧
        Triple Proofs.Try.prog 52
        #[Value.agg
        #[Value.int IntKind.i64 n123, Value.int IntKind.i64 n124, Value.int IntKind.i64 n125, Value.int IntKind.i64 n126, Value.int IntKind.i64 n127,
        Value.int IntKind.i64 n128],
        Value.agg
        #[Value.int IntKind.i64 4, Value.int IntKind.i64 0, Value.int IntKind.i64 0, Value.int IntKind.i64 n46, Value.string s47,
        Value.int IntKind.i64 0, Value.int IntKind.i64 0, Value.int IntKind.i64 n48, Value.int IntKind.i64 0, Value.int IntKind.i64 0,
        Value.slice none 0 0, Value.slice none 0 0, Value.slice none 0 0]]
        H45 fun v129 H130 =>
        ∃ a131 k132 k133,
        v129 = Value.slice a131 k132 k133 ∧
        ∃ H134,
        Vx.Sub H134 H130 ∧
        Ob (at0 k42 ≠ none) ∧
        Ob (fldA (at0 k42) 0 ≠ none) ∧
        ∃ n135,
        Reads H134 (fldA (fldA (at0 k42) 0) 5) [Value.int IntKind.i64 n135] ∧
        Ob (at0 k42 ≠ none) ∧
        ∃ n136 n137 n138 n139 n140 n141,
        Reads H134 (fldA (at0 k42) 0)
        [Value.int IntKind.i64 n136, Value.int IntKind.i64 n137, Value.int IntKind.i64 n138, Value.int IntKind.i64 n139,
        Value.int IntKind.i64 n140, Value.int IntKind.i64 n141] ∧
        Triple Proofs.Try.prog 54
        #[Value.agg
        #[Value.int IntKind.i64 n136, Value.int IntKind.i64 n137, Value.int IntKind.i64 n138, Value.int IntKind.i64 n139,
        Value.int IntKind.i64 n140, Value.int IntKind.i64 n141]]
        H130 fun v142 H143 =>
        ∃ a144 k145 k146,
        v142 = Value.slice a144 k145 k146 ∧
        Vx.Sub H134 H143 ∧
        Triple Proofs.Try.prog 53 #[Value.int IntKind.i64 n135, Value.slice a131 k132 k133, Value.slice a144 k145 k146] H143
        fun v147 H148 =>
        ∃ a149 k150 k151 a152 k153 k154 a155 k156 k157 n158,
        v147 =
        Value.agg
        #[Value.slice a149 k150 k151, Value.slice a152 k153 k154, Value.slice a155 k156 k157,
        Value.int IntKind.i64 n158] ∧
        Ob (at0 k42 ≠ none) ∧
        ∃ H159,
        Writes H148 H159 (fldA (at0 k42) 12)
        [Value.slice a149 k150 k151, Value.slice a152 k153 k154, Value.slice a155 k156 k157,
        Value.int IntKind.i64 n158] ∧
        ∃ n160 n161 n162 n163 n164 n165 n166 s167 b168 b169 n170 n171 a172 k173 k174 a175 k176 k177 a178 k179 k180
        n181 b182 b183 b184 n185 n186 n187 a188 k189 k190 a191 k192 k193 a194 k195 k196,
        Reads H159 (at0 k42)
        [Value.int IntKind.i64 n160, Value.int IntKind.i64 n161, Value.int IntKind.i64 n162,
        Value.int IntKind.i64 n163, Value.int IntKind.i64 n164, Value.int IntKind.i64 n165,
        Value.int IntKind.i64 n166, Value.string s167, Value.bool b168, Value.bool b169,
        Value.int IntKind.i64 n170, Value.int IntKind.i64 n171, Value.slice a172 k173 k174,
        Value.slice a175 k176 k177, Value.slice a178 k179 k180, Value.int IntKind.i64 n181,
        Value.bool b182, Value.bool b183, Value.bool b184, Value.int IntKind.i64 n185,
        Value.int IntKind.i64 n186, Value.int IntKind.i64 n187, Value.slice a188 k189 k190,
        Value.slice a191 k192 k193, Value.slice a194 k195 k196] ∧
        Q
        (Value.tuple
        #[Value.agg
        #[Value.int IntKind.i64 n160, Value.int IntKind.i64 n161, Value.int IntKind.i64 n162,
        Value.int IntKind.i64 n163, Value.int IntKind.i64 n164, Value.int IntKind.i64 n165,
        Value.int IntKind.i64 n166, Value.string s167, Value.bool b168, Value.bool b169,
        Value.int IntKind.i64 n170, Value.int IntKind.i64 n171, Value.slice a172 k173 k174,
        Value.slice a175 k176 k177, Value.slice a178 k179 k180, Value.int IntKind.i64 n181,
        Value.bool b182, Value.bool b183, Value.bool b184, Value.int IntKind.i64 n185,
        Value.int IntKind.i64 n186, Value.int IntKind.i64 n187, Value.slice a188 k189 k190,
        Value.slice a191 k192 k193, Value.slice a194 k195 k196],
        Value.slice a131 k132 k133])
        H159)) :
    Triple Go.Proofs.Try.prog 51 ([Value.agg
    #[Value.int IntKind.i64 n1, Value.int IntKind.i64 n2, Value.int IntKind.i64 n3, Value.int IntKind.i64 n4, Value.int IntKind.i64 n5, Value.int IntKind.i64 n6, Value.int IntKind.i64 n7,
      Value.string s8, Value.bool b9, Value.bool b10, Value.int IntKind.i64 n11, Value.int IntKind.i64 n12, Value.slice a13 k14 k15, Value.slice a16 k17 k18, Value.slice a19 k20 k21,
      Value.int IntKind.i64 n22, Value.bool b23, Value.bool b24, Value.bool b25, Value.int IntKind.i64 n26, Value.int IntKind.i64 n27, Value.int IntKind.i64 n28, Value.slice a29 k30 k31,
      Value.slice a32 k33 k34, Value.slice a35 k36 k37],
  Value.agg #[Value.bool b38, Value.int IntKind.i64 n39, Value.int IntKind.i64 n40, Value.int IntKind.i64 n41]]).toArray H Q :=
  Triple.of_vc raFixM.cx (by kernel_rfl) h

theorem raJudge.vc (n1 : Int) (n2 : Int) (n3 : Int) (n4 : Int) (n5 : Int) (n6 : Int) (n7 : Int) (s8 : ByteArray) (b9 : Bool) (b10 : Bool) (n11 : Int) (n12 : Int) (a13 : Option Addr) (k14 : Nat) (k15 : Nat) (a16 : Option Addr) (k17 : Nat) (k18 : Nat) (a19 : Option Addr) (k20 : Nat) (k21 : Nat) (n22 : Int) (b23 : Bool) (b24 : Bool) (b25 : Bool) (n26 : Int) (n27 : Int) (n28 : Int) (a29 : Option Addr) (k30 : Nat) (k31 : Nat) (a32 : Option Addr) (k33 : Nat) (k34 : Nat) (a35 : Option Addr) (k36 : Nat) (k37 : Nat) (H : PHeap) (Q : Value → PHeap → Prop)
    (h : Triple Proofs.Try.prog 36 #[Value.agg #[Value.slice a13 k14 k15, Value.slice a16 k17 k18, Value.slice a19 k20 k21, Value.int IntKind.i64 n22]] H fun v38 H39 =>
  ∃ b40,
    v38 = Value.bool b40 ∧
      ((n11 == 0) = true →
        Triple Proofs.Try.prog 57
        #[Value.agg #[Value.int IntKind.i64 n1, Value.int IntKind.i64 n2, Value.int IntKind.i64 n3, Value.int IntKind.i64 n4, Value.int IntKind.i64 n5, Value.int IntKind.i64 n6],
        Value.slice a19 k20 k21]
        H39 fun v41 H42 =>
        ∃ b43 b44 b45 n46 n47 n48 n49 a50 k51 k52,
        v41 =
        Value.agg
        #[Value.bool b43, Value.bool b44, Value.bool b45, Value.int IntKind.i64 n46, Value.int IntKind.i64 n47, Value.int IntKind.i64 n48, Value.int IntKind.i64 n49,
        Value.slice a50 k51 k52] ∧
        ((!b43) = true →
        (b40 = true →
        Q
        (Value.tuple
        #[Value.agg
        #[Value.int IntKind.i64 n1, Value.int IntKind.i64 n2, Value.int IntKind.i64 n3, Value.int IntKind.i64 n4, Value.int IntKind.i64 n5, Value.int IntKind.i64 n6,
        Value.int IntKind.i64 n7, Value.string s8, Value.bool b9, Value.bool b10, Value.int IntKind.i64 2, Value.int IntKind.i64 n12, Value.slice a13 k14 k15,
        Value.slice a16 k17 k18, Value.slice a19 k20 k21, Value.int IntKind.i64 n22, Value.bool b23, Value.bool b24, Value.bool b25, Value.int IntKind.i64 n26,
        Value.int IntKind.i64 n27, Value.int IntKind.i64 n28, Value.slice a29 k30 k31, Value.slice a32 k33 k34, Value.slice a35 k36 k37],
        Value.slice none 0 0])
        H42) ∧
        (b40 = false →
        Q
        (Value.tuple
        #[Value.agg
        #[Value.int IntKind.i64 n1, Value.int IntKind.i64 n2, Value.int IntKind.i64 n3, Value.int IntKind.i64 n4, Value.int IntKind.i64 n5, Value.int IntKind.i64 n6,
        Value.int IntKind.i64 n7, Value.string s8, Value.bool b9, Value.bool b10, Value.int IntKind.i64 n11, Value.int IntKind.i64 n12, Value.slice a13 k14 k15,
        Value.slice a16 k17 k18, Value.slice a19 k20 k21, Value.int IntKind.i64 n22, Value.bool b23, Value.bool b24, Value.bool b25, Value.int IntKind.i64 n26,
        Value.int IntKind.i64 n27, Value.int IntKind.i64 n28, Value.slice a29 k30 k31, Value.slice a32 k33 k34, Value.slice a35 k36 k37],
        Value.slice none 0 0])
        H42)) ∧
        ((!b43) = false →
        ((bif !b44 then true else b9) = true →
        Triple Proofs.Try.prog 51
        #[Value.agg
        #[Value.int IntKind.i64 n1, Value.int IntKind.i64 n2, Value.int IntKind.i64 n3, Value.int IntKind.i64 n4, Value.int IntKind.i64 n5, Value.int IntKind.i64 n6,
        Value.int IntKind.i64 n7, Value.string s8, Value.bool b9, Value.bool b10, Value.int IntKind.i64 n11, Value.int IntKind.i64 n12, Value.slice a13 k14 k15,
        Value.slice a16 k17 k18, Value.slice a19 k20 k21, Value.int IntKind.i64 n22, Value.bool b23, Value.bool b24, Value.bool b25, Value.int IntKind.i64 n26,
        Value.int IntKind.i64 n27, Value.int IntKind.i64 n28, Value.slice a29 k30 k31, Value.slice a32 k33 k34, Value.slice a19 k20 k21],
        Value.agg #[Value.bool b45, Value.int IntKind.i64 n46, Value.int IntKind.i64 n47, Value.int IntKind.i64 n48]]
        H42 fun v53 H54 =>
        ∃ n55 n56 n57 n58 n59 n60 n61 s62 b63 b64 n65 n66 a67 k68 k69 a70 k71 k72 a73 k74 k75 n76 b77 b78 b79 n80 n81 n82 a83 k84 k85 a86 k87 k88 a89 k90 k91 a92 k93 k94,
        v53 =
        Value.tuple
        #[Value.agg
        #[Value.int IntKind.i64 n55, Value.int IntKind.i64 n56, Value.int IntKind.i64 n57, Value.int IntKind.i64 n58, Value.int IntKind.i64 n59,
        Value.int IntKind.i64 n60, Value.int IntKind.i64 n61, Value.string s62, Value.bool b63, Value.bool b64, Value.int IntKind.i64 n65, Value.int IntKind.i64 n66,
        Value.slice a67 k68 k69, Value.slice a70 k71 k72, Value.slice a73 k74 k75, Value.int IntKind.i64 n76, Value.bool b77, Value.bool b78, Value.bool b79,
        Value.int IntKind.i64 n80, Value.int IntKind.i64 n81, Value.int IntKind.i64 n82, Value.slice a83 k84 k85, Value.slice a86 k87 k88, Value.slice a89 k90 k91],
        Value.slice a92 k93 k94] ∧
        Q
        (Value.tuple
        #[Value.agg
        #[Value.int IntKind.i64 n55, Value.int IntKind.i64 n56, Value.int IntKind.i64 n57, Value.int IntKind.i64 n58, Value.int IntKind.i64 n59,
        Value.int IntKind.i64 n60, Value.int IntKind.i64 n61, Value.string s62, Value.bool b63, Value.bool b64, Value.int IntKind.i64 n65, Value.int IntKind.i64 n66,
        Value.slice a67 k68 k69, Value.slice a70 k71 k72, Value.slice a73 k74 k75, Value.int IntKind.i64 n76, Value.bool b77, Value.bool b78, Value.bool b79,
        Value.int IntKind.i64 n80, Value.int IntKind.i64 n81, Value.int IntKind.i64 n82, Value.slice a83 k84 k85, Value.slice a86 k87 k88, Value.slice a89 k90 k91],
        Value.slice a92 k93 k94])
        H54) ∧
        ((bif !b44 then true else b9) = false →
        Q
        (Value.tuple
        #[Value.agg
        #[Value.int IntKind.i64 n1, Value.int IntKind.i64 n2, Value.int IntKind.i64 n3, Value.int IntKind.i64 n4, Value.int IntKind.i64 n5, Value.int IntKind.i64 n6,
        Value.int IntKind.i64 n7, Value.string s8, Value.bool b9, Value.bool b10, Value.int IntKind.i64 2, Value.int IntKind.i64 n12, Value.slice a13 k14 k15,
        Value.slice a16 k17 k18, Value.slice a19 k20 k21, Value.int IntKind.i64 n22, Value.bool true, Value.bool b24, Value.bool b45, Value.int IntKind.i64 n46,
        Value.int IntKind.i64 n47, Value.int IntKind.i64 n48, Value.slice a50 k51 k52, Value.slice a32 k33 k34, Value.slice a19 k20 k21],
        Value.slice none 0 0])
        H42))) ∧
        ((n11 == 0) = false →
        ∃ (R95 : Rl) (M96 : Mu),
        R95
        [Value.int IntKind.i64 0,
        Value.agg
        #[Value.int IntKind.i64 n1, Value.int IntKind.i64 n2, Value.int IntKind.i64 n3, Value.int IntKind.i64 n4, Value.int IntKind.i64 n5, Value.int IntKind.i64 n6,
        Value.int IntKind.i64 n7, Value.string s8, Value.bool b9, Value.bool b10, Value.int IntKind.i64 n11, Value.int IntKind.i64 n12, Value.slice a13 k14 k15, Value.slice a16 k17 k18,
        Value.slice a19 k20 k21, Value.int IntKind.i64 n22, Value.bool b23, Value.bool b24, Value.bool b25, Value.int IntKind.i64 n26, Value.int IntKind.i64 n27,
        Value.int IntKind.i64 n28, Value.slice none 0 0, Value.slice none 0 0, Value.slice a35 k36 k37]]
        H39 ∧
        ∀ (n97 n98 n99 n100 n101 n102 n103 n104 : Int) (s105 : ByteArray) (b106 b107 : Bool) (n108 n109 : Int) (a110 : Option Addr) (k111 k112 : Nat) (a113 : Option Addr) (k114 k115 : Nat)
        (a116 : Option Addr) (k117 k118 : Nat) (n119 : Int) (b120 b121 b122 : Bool) (n123 n124 n125 : Int) (a126 : Option Addr) (k127 k128 : Nat) (a129 : Option Addr) (k130 k131 : Nat)
        (a132 : Option Addr) (k133 k134 : Nat) (H135 : PHeap),
        R95
        [Value.int IntKind.i64 n97,
        Value.agg
        #[Value.int IntKind.i64 n98, Value.int IntKind.i64 n99, Value.int IntKind.i64 n100, Value.int IntKind.i64 n101, Value.int IntKind.i64 n102, Value.int IntKind.i64 n103,
        Value.int IntKind.i64 n104, Value.string s105, Value.bool b106, Value.bool b107, Value.int IntKind.i64 n108, Value.int IntKind.i64 n109, Value.slice a110 k111 k112,
        Value.slice a113 k114 k115, Value.slice a116 k117 k118, Value.int IntKind.i64 n119, Value.bool b120, Value.bool b121, Value.bool b122, Value.int IntKind.i64 n123,
        Value.int IntKind.i64 n124, Value.int IntKind.i64 n125, Value.slice a126 k127 k128, Value.slice a129 k130 k131, Value.slice a132 k133 k134]]
        H135 →
        (decide (n97 < (↑k117 : Int)) = true →
        Ob (a116 ≠ none ∧ 0 ≤ n97 ∧ n97 < (↑k117 : Int)) ∧
        ∃ n136 n137 n138 n139 s140 n141 n142 n143 n144 n145 a146 k147 k148 a149 k150 k151 a152 k153 k154,
        Reads H135 (elemA a116 n97 13)
        [Value.int IntKind.i64 n136, Value.int IntKind.i64 n137, Value.int IntKind.i64 n138, Value.int IntKind.i64 n139, Value.string s140, Value.int IntKind.i64 n141,
        Value.int IntKind.i64 n142, Value.int IntKind.i64 n143, Value.int IntKind.i64 n144, Value.int IntKind.i64 n145, Value.slice a146 k147 k148, Value.slice a149 k150 k151,
        Value.slice a152 k153 k154] ∧
        ((n136 == 17) = true →
        ∀ (k155 : Nat),
        H135 k155 = none →
        EvV Proofs.Try.prog (Builtin.append_ #[29, 29] 29 #[Value.slice a129 k130 k131, Value.slice (at0 k155) 1 1])
        (H135.upd k155 (Obj.cells #[Value.int IntKind.i64 n137] 3)) fun v156 H157 =>
        ∃ a158 k159 k160,
        v156 = Value.slice a158 k159 k160 ∧
        ∀ (k161 : Nat),
        H157 k161 = none →
        Triple Proofs.Try.prog 58
        #[Value.slice (at0 k161) 1 1,
        Value.agg #[Value.bool b122, Value.int IntKind.i64 n123, Value.int IntKind.i64 n124, Value.int IntKind.i64 n125]]
        (H157.upd k161
        (Obj.cells
        #[Value.int IntKind.i64 n136, Value.int IntKind.i64 n137, Value.int IntKind.i64 n138, Value.int IntKind.i64 n139, Value.string s140,
        Value.int IntKind.i64 n141, Value.int IntKind.i64 n142, Value.int IntKind.i64 n143, Value.int IntKind.i64 n144, Value.int IntKind.i64 n145,
        Value.slice a146 k147 k148, Value.slice a149 k150 k151, Value.slice a152 k153 k154]
        32))
        fun v162 H163 =>
        ∃ a164 k165 k166,
        v162 = Value.slice a164 k165 k166 ∧
        EvV Proofs.Try.prog (Builtin.append_ #[29, 29] 29 #[Value.slice a126 k127 k128, Value.slice a164 k165 k166]) H163 fun v167 H168 =>
        ∃ a169 k170 k171,
        v167 = Value.slice a169 k170 k171 ∧
        R95
        [Value.int IntKind.i64 (IntKind.i64.wrap (n97 + 1)),
        Value.agg
        #[Value.int IntKind.i64 n98, Value.int IntKind.i64 n99, Value.int IntKind.i64 n100, Value.int IntKind.i64 n101,
        Value.int IntKind.i64 n102, Value.int IntKind.i64 n103, Value.int IntKind.i64 n104, Value.string s105, Value.bool b106,
        Value.bool b107, Value.int IntKind.i64 n108, Value.int IntKind.i64 n109, Value.slice a110 k111 k112, Value.slice a113 k114 k115,
        Value.slice a116 k117 k118, Value.int IntKind.i64 n119, Value.bool b120, Value.bool b121, Value.bool b122,
        Value.int IntKind.i64 n123, Value.int IntKind.i64 n124, Value.int IntKind.i64 n125, Value.slice a169 k170 k171,
        Value.slice a158 k159 k160, Value.slice a132 k133 k134]]
        H168 ∧
        Less
        (M96
        [Value.int IntKind.i64 (IntKind.i64.wrap (n97 + 1)),
        Value.agg
        #[Value.int IntKind.i64 n98, Value.int IntKind.i64 n99, Value.int IntKind.i64 n100, Value.int IntKind.i64 n101,
        Value.int IntKind.i64 n102, Value.int IntKind.i64 n103, Value.int IntKind.i64 n104, Value.string s105, Value.bool b106,
        Value.bool b107, Value.int IntKind.i64 n108, Value.int IntKind.i64 n109, Value.slice a110 k111 k112, Value.slice a113 k114 k115,
        Value.slice a116 k117 k118, Value.int IntKind.i64 n119, Value.bool b120, Value.bool b121, Value.bool b122,
        Value.int IntKind.i64 n123, Value.int IntKind.i64 n124, Value.int IntKind.i64 n125, Value.slice a169 k170 k171,
        Value.slice a158 k159 k160, Value.slice a132 k133 k134]]
        H168)
        (M96
        [Value.int IntKind.i64 n97,
        Value.agg
        #[Value.int IntKind.i64 n98, Value.int IntKind.i64 n99, Value.int IntKind.i64 n100, Value.int IntKind.i64 n101,
        Value.int IntKind.i64 n102, Value.int IntKind.i64 n103, Value.int IntKind.i64 n104, Value.string s105, Value.bool b106,
        Value.bool b107, Value.int IntKind.i64 n108, Value.int IntKind.i64 n109, Value.slice a110 k111 k112, Value.slice a113 k114 k115,
        Value.slice a116 k117 k118, Value.int IntKind.i64 n119, Value.bool b120, Value.bool b121, Value.bool b122,
        Value.int IntKind.i64 n123, Value.int IntKind.i64 n124, Value.int IntKind.i64 n125, Value.slice a126 k127 k128,
        Value.slice a129 k130 k131, Value.slice a132 k133 k134]]
        H135)) ∧
        ((n136 == 17) = false →
        R95
        [Value.int IntKind.i64 (IntKind.i64.wrap (n97 + 1)),
        Value.agg
        #[Value.int IntKind.i64 n98, Value.int IntKind.i64 n99, Value.int IntKind.i64 n100, Value.int IntKind.i64 n101, Value.int IntKind.i64 n102,
        Value.int IntKind.i64 n103, Value.int IntKind.i64 n104, Value.string s105, Value.bool b106, Value.bool b107, Value.int IntKind.i64 n108,
        Value.int IntKind.i64 n109, Value.slice a110 k111 k112, Value.slice a113 k114 k115, Value.slice a116 k117 k118, Value.int IntKind.i64 n119, Value.bool b120,
        Value.bool b121, Value.bool b122, Value.int IntKind.i64 n123, Value.int IntKind.i64 n124, Value.int IntKind.i64 n125, Value.slice a126 k127 k128,
        Value.slice a129 k130 k131, Value.slice a132 k133 k134]]
        H135 ∧
        Less
        (M96
        [Value.int IntKind.i64 (IntKind.i64.wrap (n97 + 1)),
        Value.agg
        #[Value.int IntKind.i64 n98, Value.int IntKind.i64 n99, Value.int IntKind.i64 n100, Value.int IntKind.i64 n101, Value.int IntKind.i64 n102,
        Value.int IntKind.i64 n103, Value.int IntKind.i64 n104, Value.string s105, Value.bool b106, Value.bool b107, Value.int IntKind.i64 n108,
        Value.int IntKind.i64 n109, Value.slice a110 k111 k112, Value.slice a113 k114 k115, Value.slice a116 k117 k118, Value.int IntKind.i64 n119, Value.bool b120,
        Value.bool b121, Value.bool b122, Value.int IntKind.i64 n123, Value.int IntKind.i64 n124, Value.int IntKind.i64 n125, Value.slice a126 k127 k128,
        Value.slice a129 k130 k131, Value.slice a132 k133 k134]]
        H135)
        (M96
        [Value.int IntKind.i64 n97,
        Value.agg
        #[Value.int IntKind.i64 n98, Value.int IntKind.i64 n99, Value.int IntKind.i64 n100, Value.int IntKind.i64 n101, Value.int IntKind.i64 n102,
        Value.int IntKind.i64 n103, Value.int IntKind.i64 n104, Value.string s105, Value.bool b106, Value.bool b107, Value.int IntKind.i64 n108,
        Value.int IntKind.i64 n109, Value.slice a110 k111 k112, Value.slice a113 k114 k115, Value.slice a116 k117 k118, Value.int IntKind.i64 n119, Value.bool b120,
        Value.bool b121, Value.bool b122, Value.int IntKind.i64 n123, Value.int IntKind.i64 n124, Value.int IntKind.i64 n125, Value.slice a126 k127 k128,
        Value.slice a129 k130 k131, Value.slice a132 k133 k134]]
        H135))) ∧
        (decide (n97 < (↑k117 : Int)) = false →
        ((bif bif b107 then decide ((↑k127 : Int) ≥ n101) else decide ((↑k130 : Int) ≥ n101) then true else b40) = true →
        Q
        (Value.tuple
        #[Value.agg
        #[Value.int IntKind.i64 n98, Value.int IntKind.i64 n99, Value.int IntKind.i64 n100, Value.int IntKind.i64 n101, Value.int IntKind.i64 n102,
        Value.int IntKind.i64 n103, Value.int IntKind.i64 n104, Value.string s105, Value.bool b106, Value.bool b107, Value.int IntKind.i64 2, Value.int IntKind.i64 n109,
        Value.slice a110 k111 k112, Value.slice a113 k114 k115, Value.slice a116 k117 k118, Value.int IntKind.i64 n119,
        Value.bool (bif b107 then decide ((↑k127 : Int) ≥ n101) else decide ((↑k130 : Int) ≥ n101)), Value.bool b121, Value.bool b122, Value.int IntKind.i64 n123,
        Value.int IntKind.i64 n124, Value.int IntKind.i64 n125, Value.slice a126 k127 k128, Value.slice a129 k130 k131, Value.slice a132 k133 k134],
        Value.slice none 0 0])
        H135) ∧
        ((bif bif b107 then decide ((↑k127 : Int) ≥ n101) else decide ((↑k130 : Int) ≥ n101) then true else b40) = false →
        Q
        (Value.tuple
        #[Value.agg
        #[Value.int IntKind.i64 n98, Value.int IntKind.i64 n99, Value.int IntKind.i64 n100, Value.int IntKind.i64 n101, Value.int IntKind.i64 n102,
        Value.int IntKind.i64 n103, Value.int IntKind.i64 n104, Value.string s105, Value.bool b106, Value.bool b107, Value.int IntKind.i64 n108, Value.int IntKind.i64 n109,
        Value.slice a110 k111 k112, Value.slice a113 k114 k115, Value.slice a116 k117 k118, Value.int IntKind.i64 n119, Value.bool b120, Value.bool b121, Value.bool b122,
        Value.int IntKind.i64 n123, Value.int IntKind.i64 n124, Value.int IntKind.i64 n125, Value.slice a126 k127 k128, Value.slice a129 k130 k131,
        Value.slice a132 k133 k134],
        Value.slice none 0 0])
        H135)))) :
    Triple Go.Proofs.Try.prog 32 ([Value.agg
    #[Value.int IntKind.i64 n1, Value.int IntKind.i64 n2, Value.int IntKind.i64 n3, Value.int IntKind.i64 n4, Value.int IntKind.i64 n5, Value.int IntKind.i64 n6, Value.int IntKind.i64 n7,
      Value.string s8, Value.bool b9, Value.bool b10, Value.int IntKind.i64 n11, Value.int IntKind.i64 n12, Value.slice a13 k14 k15, Value.slice a16 k17 k18, Value.slice a19 k20 k21,
      Value.int IntKind.i64 n22, Value.bool b23, Value.bool b24, Value.bool b25, Value.int IntKind.i64 n26, Value.int IntKind.i64 n27, Value.int IntKind.i64 n28, Value.slice a29 k30 k31,
      Value.slice a32 k33 k34, Value.slice a35 k36 k37]]).toArray H Q :=
  Triple.of_vc raJudge.cx (by kernel_rfl) h

theorem raTakes.vc (n1 : Int) (n2 : Int) (n3 : Int) (n4 : Int) (n5 : Int) (n6 : Int) (n7 : Int) (s8 : ByteArray) (b9 : Bool) (b10 : Bool) (n11 : Int) (n12 : Int) (a13 : Option Addr) (k14 : Nat) (k15 : Nat) (a16 : Option Addr) (k17 : Nat) (k18 : Nat) (a19 : Option Addr) (k20 : Nat) (k21 : Nat) (n22 : Int) (b23 : Bool) (b24 : Bool) (b25 : Bool) (n26 : Int) (n27 : Int) (n28 : Int) (a29 : Option Addr) (k30 : Nat) (k31 : Nat) (a32 : Option Addr) (k33 : Nat) (k34 : Nat) (a35 : Option Addr) (k36 : Nat) (k37 : Nat) (n38 : Int) (n39 : Int) (n40 : Int) (n41 : Int) (s42 : ByteArray) (n43 : Int) (n44 : Int) (n45 : Int) (n46 : Int) (n47 : Int) (a48 : Option Addr) (k49 : Nat) (k50 : Nat) (a51 : Option Addr) (k52 : Nat) (k53 : Nat) (a54 : Option Addr) (k55 : Nat) (k56 : Nat) (H : PHeap) (Q : Value → PHeap → Prop)
    (h : ((bif n11 == 2 then true else bif n41 != n7 then true else !eqS s42 s8) = true → Q (Value.bool false) H) ∧
  ((bif n11 == 2 then true else bif n41 != n7 then true else !eqS s42 s8) = false →
    ((n11 == 0) = true → Q (Value.bool (n38 == 14)) H) ∧
      ((n11 == 0) = false →
        ((n45 != n12) = true → Q (Value.bool false) H) ∧
        ((n45 != n12) = false →
        ((n38 == 16) = true → Q (Value.bool (n47 == 4)) H) ∧
        ((n38 == 16) = false →
        (b25 = true →
        Q
        (Value.bool
        (bif n38 == 17 then bif n47 == 2 then bif n43 == n26 then n44 == n27 else false else bif n47 == 3 then bif n43 == n26 then n44 == n27 else false else false else false))
        H) ∧
        (b25 = false → Q (Value.bool (bif n38 == 17 then n47 == 4 else false)) H)))))) :
    Triple Go.Proofs.Try.prog 34 ([Value.agg
    #[Value.int IntKind.i64 n1, Value.int IntKind.i64 n2, Value.int IntKind.i64 n3, Value.int IntKind.i64 n4, Value.int IntKind.i64 n5, Value.int IntKind.i64 n6, Value.int IntKind.i64 n7,
      Value.string s8, Value.bool b9, Value.bool b10, Value.int IntKind.i64 n11, Value.int IntKind.i64 n12, Value.slice a13 k14 k15, Value.slice a16 k17 k18, Value.slice a19 k20 k21,
      Value.int IntKind.i64 n22, Value.bool b23, Value.bool b24, Value.bool b25, Value.int IntKind.i64 n26, Value.int IntKind.i64 n27, Value.int IntKind.i64 n28, Value.slice a29 k30 k31,
      Value.slice a32 k33 k34, Value.slice a35 k36 k37],
  Value.agg
    #[Value.int IntKind.i64 n38, Value.int IntKind.i64 n39, Value.int IntKind.i64 n40, Value.int IntKind.i64 n41, Value.string s42, Value.int IntKind.i64 n43, Value.int IntKind.i64 n44,
      Value.int IntKind.i64 n45, Value.int IntKind.i64 n46, Value.int IntKind.i64 n47, Value.slice a48 k49 k50, Value.slice a51 k52 k53, Value.slice a54 k55 k56]]).toArray H Q :=
  Triple.of_vc raTakes.cx (by kernel_rfl) h

theorem raTake.vc (n1 : Int) (n2 : Int) (n3 : Int) (n4 : Int) (n5 : Int) (n6 : Int) (n7 : Int) (s8 : ByteArray) (b9 : Bool) (b10 : Bool) (n11 : Int) (n12 : Int) (a13 : Option Addr) (k14 : Nat) (k15 : Nat) (a16 : Option Addr) (k17 : Nat) (k18 : Nat) (a19 : Option Addr) (k20 : Nat) (k21 : Nat) (n22 : Int) (b23 : Bool) (b24 : Bool) (b25 : Bool) (n26 : Int) (n27 : Int) (n28 : Int) (a29 : Option Addr) (k30 : Nat) (k31 : Nat) (a32 : Option Addr) (k33 : Nat) (k34 : Nat) (a35 : Option Addr) (k36 : Nat) (k37 : Nat) (n38 : Int) (n39 : Int) (n40 : Int) (n41 : Int) (s42 : ByteArray) (n43 : Int) (n44 : Int) (n45 : Int) (n46 : Int) (n47 : Int) (a48 : Option Addr) (k49 : Nat) (k50 : Nat) (a51 : Option Addr) (k52 : Nat) (k53 : Nat) (a54 : Option Addr) (k55 : Nat) (k56 : Nat) (H : PHeap) (Q : Value → PHeap → Prop)
    (h : Triple Proofs.Try.prog 34
  #[Value.agg
      #[Value.int IntKind.i64 n1, Value.int IntKind.i64 n2, Value.int IntKind.i64 n3, Value.int IntKind.i64 n4, Value.int IntKind.i64 n5, Value.int IntKind.i64 n6, Value.int IntKind.i64 n7,
        Value.string s8, Value.bool b9, Value.bool b10, Value.int IntKind.i64 n11, Value.int IntKind.i64 n12, Value.slice a13 k14 k15, Value.slice a16 k17 k18, Value.slice a19 k20 k21,
        Value.int IntKind.i64 n22, Value.bool b23, Value.bool b24, Value.bool b25, Value.int IntKind.i64 n26, Value.int IntKind.i64 n27, Value.int IntKind.i64 n28, Value.slice a29 k30 k31,
        Value.slice a32 k33 k34, Value.slice a35 k36 k37],
    Value.agg
      #[Value.int IntKind.i64 n38, Value.int IntKind.i64 n39, Value.int IntKind.i64 n40, Value.int IntKind.i64 n41, Value.string s42, Value.int IntKind.i64 n43, Value.int IntKind.i64 n44,
        Value.int IntKind.i64 n45, Value.int IntKind.i64 n46, Value.int IntKind.i64 n47, Value.slice a48 k49 k50, Value.slice a51 k52 k53, Value.slice a54 k55 k56]]
  H fun v57 H58 =>
  ∃ b59,
    v57 = Value.bool b59 ∧
      ((!b59) = true →
        Q
        (Value.tuple
        #[Value.agg
        #[Value.int IntKind.i64 n1, Value.int IntKind.i64 n2, Value.int IntKind.i64 n3, Value.int IntKind.i64 n4, Value.int IntKind.i64 n5, Value.int IntKind.i64 n6,
        Value.int IntKind.i64 n7, Value.string s8, Value.bool b9, Value.bool b10, Value.int IntKind.i64 n11, Value.int IntKind.i64 n12, Value.slice a13 k14 k15, Value.slice a16 k17 k18,
        Value.slice a19 k20 k21, Value.int IntKind.i64 n22, Value.bool b23, Value.bool b24, Value.bool b25, Value.int IntKind.i64 n26, Value.int IntKind.i64 n27, Value.int IntKind.i64 n28,
        Value.slice a29 k30 k31, Value.slice a32 k33 k34, Value.slice a35 k36 k37],
        Value.slice none 0 0])
        H58) ∧
        ((!b59) = false →
        Triple Proofs.Try.prog 35
        #[Value.agg #[Value.slice a13 k14 k15, Value.slice a16 k17 k18, Value.slice a19 k20 k21, Value.int IntKind.i64 n22],
        Value.agg
        #[Value.int IntKind.i64 n38, Value.int IntKind.i64 n39, Value.int IntKind.i64 n40, Value.int IntKind.i64 n41, Value.string s42, Value.int IntKind.i64 n43, Value.int IntKind.i64 n44,
        Value.int IntKind.i64 n45, Value.int IntKind.i64 n46, Value.int IntKind.i64 n47, Value.slice a48 k49 k50, Value.slice a51 k52 k53, Value.slice a54 k55 k56]]
        H58 fun v60 H61 =>
        ∃ a62 k63 k64 a65 k66 k67 a68 k69 k70 n71 b72,
        v60 = Value.tuple #[Value.agg #[Value.slice a62 k63 k64, Value.slice a65 k66 k67, Value.slice a68 k69 k70, Value.int IntKind.i64 n71], Value.bool b72] ∧
        ((!b72) = false →
        Triple Proofs.Try.prog 36 #[Value.agg #[Value.slice a62 k63 k64, Value.slice a65 k66 k67, Value.slice a68 k69 k70, Value.int IntKind.i64 n71]] H61 fun v73 H74 =>
        ∃ b75,
        v73 = Value.bool b75 ∧
        ((!b75) = true →
        Q
        (Value.tuple
        #[Value.agg
        #[Value.int IntKind.i64 n1, Value.int IntKind.i64 n2, Value.int IntKind.i64 n3, Value.int IntKind.i64 n4, Value.int IntKind.i64 n5, Value.int IntKind.i64 n6,
        Value.int IntKind.i64 n7, Value.string s8, Value.bool b9, Value.bool b10, Value.int IntKind.i64 n11, Value.int IntKind.i64 n12, Value.slice a62 k63 k64,
        Value.slice a65 k66 k67, Value.slice a68 k69 k70, Value.int IntKind.i64 n71, Value.bool b23, Value.bool b24, Value.bool b25, Value.int IntKind.i64 n26,
        Value.int IntKind.i64 n27, Value.int IntKind.i64 n28, Value.slice a29 k30 k31, Value.slice a32 k33 k34, Value.slice a35 k36 k37],
        Value.slice none 0 0])
        H74) ∧
        ((!b75) = false →
        Triple Proofs.Try.prog 32
        #[Value.agg
        #[Value.int IntKind.i64 n1, Value.int IntKind.i64 n2, Value.int IntKind.i64 n3, Value.int IntKind.i64 n4, Value.int IntKind.i64 n5, Value.int IntKind.i64 n6,
        Value.int IntKind.i64 n7, Value.string s8, Value.bool b9, Value.bool b10, Value.int IntKind.i64 n11, Value.int IntKind.i64 n12, Value.slice a62 k63 k64,
        Value.slice a65 k66 k67, Value.slice a68 k69 k70, Value.int IntKind.i64 n71, Value.bool b23, Value.bool b24, Value.bool b25, Value.int IntKind.i64 n26,
        Value.int IntKind.i64 n27, Value.int IntKind.i64 n28, Value.slice a29 k30 k31, Value.slice a32 k33 k34, Value.slice a35 k36 k37]]
        H74 fun v76 H77 =>
        ∃ n78 n79 n80 n81 n82 n83 n84 s85 b86 b87 n88 n89 a90 k91 k92 a93 k94 k95 a96 k97 k98 n99 b100 b101 b102 n103 n104 n105 a106 k107 k108 a109 k110 k111 a112 k113 k114
        a115 k116 k117,
        v76 =
        Value.tuple
        #[Value.agg
        #[Value.int IntKind.i64 n78, Value.int IntKind.i64 n79, Value.int IntKind.i64 n80, Value.int IntKind.i64 n81, Value.int IntKind.i64 n82,
        Value.int IntKind.i64 n83, Value.int IntKind.i64 n84, Value.string s85, Value.bool b86, Value.bool b87, Value.int IntKind.i64 n88,
        Value.int IntKind.i64 n89, Value.slice a90 k91 k92, Value.slice a93 k94 k95, Value.slice a96 k97 k98, Value.int IntKind.i64 n99, Value.bool b100,
        Value.bool b101, Value.bool b102, Value.int IntKind.i64 n103, Value.int IntKind.i64 n104, Value.int IntKind.i64 n105, Value.slice a106 k107 k108,
        Value.slice a109 k110 k111, Value.slice a112 k113 k114],
        Value.slice a115 k116 k117] ∧
        Q
        (Value.tuple
        #[Value.agg
        #[Value.int IntKind.i64 n78, Value.int IntKind.i64 n79, Value.int IntKind.i64 n80, Value.int IntKind.i64 n81, Value.int IntKind.i64 n82,
        Value.int IntKind.i64 n83, Value.int IntKind.i64 n84, Value.string s85, Value.bool b86, Value.bool b87, Value.int IntKind.i64 n88,
        Value.int IntKind.i64 n89, Value.slice a90 k91 k92, Value.slice a93 k94 k95, Value.slice a96 k97 k98, Value.int IntKind.i64 n99, Value.bool b100,
        Value.bool b101, Value.bool b102, Value.int IntKind.i64 n103, Value.int IntKind.i64 n104, Value.int IntKind.i64 n105, Value.slice a106 k107 k108,
        Value.slice a109 k110 k111, Value.slice a112 k113 k114],
        Value.slice a115 k116 k117])
        H77)) ∧
        ((!b72) = !false →
        Q
        (Value.tuple
        #[Value.agg
        #[Value.int IntKind.i64 n1, Value.int IntKind.i64 n2, Value.int IntKind.i64 n3, Value.int IntKind.i64 n4, Value.int IntKind.i64 n5, Value.int IntKind.i64 n6,
        Value.int IntKind.i64 n7, Value.string s8, Value.bool b9, Value.bool b10, Value.int IntKind.i64 n11, Value.int IntKind.i64 n12, Value.slice a62 k63 k64,
        Value.slice a65 k66 k67, Value.slice a68 k69 k70, Value.int IntKind.i64 n71, Value.bool b23, Value.bool b24, Value.bool b25, Value.int IntKind.i64 n26,
        Value.int IntKind.i64 n27, Value.int IntKind.i64 n28, Value.slice a29 k30 k31, Value.slice a32 k33 k34, Value.slice a35 k36 k37],
        Value.slice none 0 0])
        H61))) :
    Triple Go.Proofs.Try.prog 16 ([Value.agg
    #[Value.int IntKind.i64 n1, Value.int IntKind.i64 n2, Value.int IntKind.i64 n3, Value.int IntKind.i64 n4, Value.int IntKind.i64 n5, Value.int IntKind.i64 n6, Value.int IntKind.i64 n7,
      Value.string s8, Value.bool b9, Value.bool b10, Value.int IntKind.i64 n11, Value.int IntKind.i64 n12, Value.slice a13 k14 k15, Value.slice a16 k17 k18, Value.slice a19 k20 k21,
      Value.int IntKind.i64 n22, Value.bool b23, Value.bool b24, Value.bool b25, Value.int IntKind.i64 n26, Value.int IntKind.i64 n27, Value.int IntKind.i64 n28, Value.slice a29 k30 k31,
      Value.slice a32 k33 k34, Value.slice a35 k36 k37],
  Value.agg
    #[Value.int IntKind.i64 n38, Value.int IntKind.i64 n39, Value.int IntKind.i64 n40, Value.int IntKind.i64 n41, Value.string s42, Value.int IntKind.i64 n43, Value.int IntKind.i64 n44,
      Value.int IntKind.i64 n45, Value.int IntKind.i64 n46, Value.int IntKind.i64 n47, Value.slice a48 k49 k50, Value.slice a51 k52 k53, Value.slice a54 k55 k56]]).toArray H Q :=
  Triple.of_vc raTake.cx (by kernel_rfl) h

theorem raTick.vc (n1 : Int) (n2 : Int) (n3 : Int) (n4 : Int) (n5 : Int) (n6 : Int) (n7 : Int) (s8 : ByteArray) (b9 : Bool) (b10 : Bool) (n11 : Int) (n12 : Int) (a13 : Option Addr) (k14 : Nat) (k15 : Nat) (a16 : Option Addr) (k17 : Nat) (k18 : Nat) (a19 : Option Addr) (k20 : Nat) (k21 : Nat) (n22 : Int) (b23 : Bool) (b24 : Bool) (b25 : Bool) (n26 : Int) (n27 : Int) (n28 : Int) (a29 : Option Addr) (k30 : Nat) (k31 : Nat) (a32 : Option Addr) (k33 : Nat) (k34 : Nat) (a35 : Option Addr) (k36 : Nat) (k37 : Nat) (H : PHeap) (Q : Value → PHeap → Prop)
    (h : ((n11 == 2) = true →
    Q
      (Value.tuple
        #[Value.agg
        #[Value.int IntKind.i64 n1, Value.int IntKind.i64 n2, Value.int IntKind.i64 n3, Value.int IntKind.i64 n4, Value.int IntKind.i64 n5, Value.int IntKind.i64 n6, Value.int IntKind.i64 n7,
        Value.string s8, Value.bool b9, Value.bool b10, Value.int IntKind.i64 n11, Value.int IntKind.i64 n12, Value.slice a13 k14 k15, Value.slice a16 k17 k18, Value.slice a19 k20 k21,
        Value.int IntKind.i64 n22, Value.bool b23, Value.bool b24, Value.bool b25, Value.int IntKind.i64 n26, Value.int IntKind.i64 n27, Value.int IntKind.i64 n28, Value.slice a29 k30 k31,
        Value.slice a32 k33 k34, Value.slice a35 k36 k37],
        Value.slice none 0 0])
      H) ∧
  ((n11 == 2) = false →
    Triple Proofs.Try.prog 32
      #[Value.agg
        #[Value.int IntKind.i64 n1, Value.int IntKind.i64 n2, Value.int IntKind.i64 n3, Value.int IntKind.i64 n4, Value.int IntKind.i64 n5, Value.int IntKind.i64 n6, Value.int IntKind.i64 n7,
        Value.string s8, Value.bool b9, Value.bool b10, Value.int IntKind.i64 n11, Value.int IntKind.i64 n12, Value.slice a13 k14 k15, Value.slice a16 k17 k18, Value.slice a19 k20 k21,
        Value.int IntKind.i64 n22, Value.bool b23, Value.bool b24, Value.bool b25, Value.int IntKind.i64 n26, Value.int IntKind.i64 n27, Value.int IntKind.i64 n28, Value.slice a29 k30 k31,
        Value.slice a32 k33 k34, Value.slice a35 k36 k37]]
      H fun v38 H39 =>
      ∃ n40 n41 n42 n43 n44 n45 n46 s47 b48 b49 n50 n51 a52 k53 k54 a55 k56 k57 a58 k59 k60 n61 b62 b63 b64 n65 n66 n67 a68 k69 k70 a71 k72 k73 a74 k75 k76 a77 k78 k79,
        v38 =
        Value.tuple
        #[Value.agg
        #[Value.int IntKind.i64 n40, Value.int IntKind.i64 n41, Value.int IntKind.i64 n42, Value.int IntKind.i64 n43, Value.int IntKind.i64 n44, Value.int IntKind.i64 n45,
        Value.int IntKind.i64 n46, Value.string s47, Value.bool b48, Value.bool b49, Value.int IntKind.i64 n50, Value.int IntKind.i64 n51, Value.slice a52 k53 k54, Value.slice a55 k56 k57,
        Value.slice a58 k59 k60, Value.int IntKind.i64 n61, Value.bool b62, Value.bool b63, Value.bool b64, Value.int IntKind.i64 n65, Value.int IntKind.i64 n66, Value.int IntKind.i64 n67,
        Value.slice a68 k69 k70, Value.slice a71 k72 k73, Value.slice a74 k75 k76],
        Value.slice a77 k78 k79] ∧
        ((n50 != n11) = true →
        Q
        (Value.tuple
        #[Value.agg
        #[Value.int IntKind.i64 n40, Value.int IntKind.i64 n41, Value.int IntKind.i64 n42, Value.int IntKind.i64 n43, Value.int IntKind.i64 n44, Value.int IntKind.i64 n45,
        Value.int IntKind.i64 n46, Value.string s47, Value.bool b48, Value.bool b49, Value.int IntKind.i64 n50, Value.int IntKind.i64 n51, Value.slice a52 k53 k54,
        Value.slice a55 k56 k57, Value.slice a58 k59 k60, Value.int IntKind.i64 n61, Value.bool b62, Value.bool b63, Value.bool b64, Value.int IntKind.i64 n65,
        Value.int IntKind.i64 n66, Value.int IntKind.i64 n67, Value.slice a68 k69 k70, Value.slice a71 k72 k73, Value.slice a74 k75 k76],
        Value.slice a77 k78 k79])
        H39) ∧
        ((n50 != n11) = false →
        Triple Proofs.Try.prog 33 #[Value.agg #[Value.slice a52 k53 k54, Value.slice a55 k56 k57, Value.slice a58 k59 k60, Value.int IntKind.i64 n61]] H39 fun v80 H81 =>
        ∃ a82 k83 k84 a85 k86 k87 a88 k89 k90 n91 a92 k93 k94 b95,
        v80 = Value.tuple #[Value.agg #[Value.slice a82 k83 k84, Value.slice a85 k86 k87, Value.slice a88 k89 k90, Value.int IntKind.i64 n91], Value.slice a92 k93 k94, Value.bool b95] ∧
        (b95 = true →
        Q
        (Value.tuple
        #[Value.agg
        #[Value.int IntKind.i64 n40, Value.int IntKind.i64 n41, Value.int IntKind.i64 n42, Value.int IntKind.i64 n43, Value.int IntKind.i64 n44, Value.int IntKind.i64 n45,
        Value.int IntKind.i64 n46, Value.string s47, Value.bool b48, Value.bool b49, Value.int IntKind.i64 2, Value.int IntKind.i64 n51, Value.slice a82 k83 k84,
        Value.slice a85 k86 k87, Value.slice a88 k89 k90, Value.int IntKind.i64 n91, Value.bool b62, Value.bool b63, Value.bool b64, Value.int IntKind.i64 n65,
        Value.int IntKind.i64 n66, Value.int IntKind.i64 n67, Value.slice a68 k69 k70, Value.slice a71 k72 k73, Value.slice a74 k75 k76],
        Value.slice none 0 0])
        H81) ∧
        (b95 = false →
        Q
        (Value.tuple
        #[Value.agg
        #[Value.int IntKind.i64 n40, Value.int IntKind.i64 n41, Value.int IntKind.i64 n42, Value.int IntKind.i64 n43, Value.int IntKind.i64 n44, Value.int IntKind.i64 n45,
        Value.int IntKind.i64 n46, Value.string s47, Value.bool b48, Value.bool b49, Value.int IntKind.i64 n50, Value.int IntKind.i64 n51, Value.slice a82 k83 k84,
        Value.slice a85 k86 k87, Value.slice a88 k89 k90, Value.int IntKind.i64 n91, Value.bool b62, Value.bool b63, Value.bool b64, Value.int IntKind.i64 n65,
        Value.int IntKind.i64 n66, Value.int IntKind.i64 n67, Value.slice a68 k69 k70, Value.slice a71 k72 k73, Value.slice a74 k75 k76],
        Value.slice a92 k93 k94])
        H81)))) :
    Triple Go.Proofs.Try.prog 15 ([Value.agg
    #[Value.int IntKind.i64 n1, Value.int IntKind.i64 n2, Value.int IntKind.i64 n3, Value.int IntKind.i64 n4, Value.int IntKind.i64 n5, Value.int IntKind.i64 n6, Value.int IntKind.i64 n7,
      Value.string s8, Value.bool b9, Value.bool b10, Value.int IntKind.i64 n11, Value.int IntKind.i64 n12, Value.slice a13 k14 k15, Value.slice a16 k17 k18, Value.slice a19 k20 k21,
      Value.int IntKind.i64 n22, Value.bool b23, Value.bool b24, Value.bool b25, Value.int IntKind.i64 n26, Value.int IntKind.i64 n27, Value.int IntKind.i64 n28, Value.slice a29 k30 k31,
      Value.slice a32 k33 k34, Value.slice a35 k36 k37]]).toArray H Q :=
  Triple.of_vc raTick.cx (by kernel_rfl) h

end Go.Vc
