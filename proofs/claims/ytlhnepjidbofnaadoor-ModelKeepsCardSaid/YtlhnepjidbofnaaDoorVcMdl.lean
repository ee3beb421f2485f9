/- What is to be shown of each function, in its normal form. Printed by a program of this session's, checked by the kernel. -/
import Derived.Test.YtlhnepjidbofnaaDoorE2
import Derived.Test.YtlhnepjidbofnaaDoorProg
set_option linter.unusedVariables false
set_option maxRecDepth 100000
namespace Go.Vc
open Go.Vx Go
def mText1.cx : Cx := ⟨[], [], [], []⟩
def mText.cx : Cx := ⟨[3], [(5, [17], [])], [], []⟩
def mNext.cx : Cx := ⟨[1], [], [], []⟩
def mNext1.cx : Cx := ⟨[], [(1, [9], [])], [], []⟩
def mAll.cx : Cx := ⟨[3, 4, 6, 8], [(4, [12], []), (11, [7], [])], [], [(42, [62])]⟩
def mOf.cx : Cx := ⟨[], [], [], []⟩
def mSet.cx : Cx := ⟨[], [], [], []⟩
def mDrift.cx : Cx := ⟨[7], [(5, [5, 28], [])], [], []⟩
def mKeep.cx : Cx := ⟨[9], [(3, [7, 15], [])], [], []⟩
def mThere.cx : Cx := ⟨[], [], [], []⟩
def mNone.cx : Cx := ⟨[], [], [], []⟩
def mPlain.cx : Cx := ⟨[], [], [], []⟩
def mList.cx : Cx := ⟨[], [(5, [5, 45], []), (12, [73], []), (18, [84], [])], [], []⟩
def mCopy.cx : Cx := ⟨[], [(3, [], [])], [], [(14, [9, 57])]⟩
def mDone.cx : Cx := ⟨[4, 5], [], [], []⟩
def mDone1.cx : Cx := ⟨[], [], [], []⟩
def mDone2.cx : Cx := ⟨[], [], [], []⟩
def mDone3.cx : Cx := ⟨[], [], [], []⟩
def mDone4.cx : Cx := ⟨[], [], [], []⟩
def mFits.cx : Cx := ⟨[], [], [], []⟩
def mSame.cx : Cx := ⟨[], [], [], []⟩
def mBusy.cx : Cx := ⟨[], [], [], []⟩
def mBusy1.cx : Cx := ⟨[], [], [], []⟩
def mTake.cx : Cx := ⟨[], [], [], []⟩
def mAnswered.cx : Cx := ⟨[], [], [], []⟩
def mCan.cx : Cx := ⟨[], [(7, [6, 7, 21], []), (20, [10, 53], [])], [], []⟩
def mRight.cx : Cx := ⟨[3], [], [], []⟩
def mRight1.cx : Cx := ⟨[], [], [], []⟩
def qCheck.cx : Cx := ⟨[], [], [], []⟩

theorem mText1.vc (b1 : Bool) (s2 : ByteArray) (a3 : Option Addr) (H : PHeap) (Q : Value → PHeap → Prop)
    (h : Triple Proofs.Tryd.prog 44 #[Value.bool b1] H fun v4 H5 =>
  ∃ s6,
    v4 = Value.string s6 ∧
      Triple Proofs.Tryd.prog 45 #[Value.string s2] H5 fun v7 H8 =>
        ∃ s9,
        v7 = Value.string s9 ∧
        Ob ((↑(s6.size + s9.size) : Int) ≤ 9223372036854775807) ∧
        Triple Proofs.Tryd.prog 43 #[Value.pointer a3, Value.string (s6 ++ s9)] H8 fun v10 H11 => ∃ n12 v13, v10 = Value.tuple #[Value.int IntKind.i64 n12, v13] ∧ Q (Value.tuple #[]) H11) :
    Triple Go.Proofs.Tryd.prog 42 ([Value.bool b1, Value.string s2, Value.pointer a3]).toArray H Q :=
  Triple.of_vc mText1.cx (by kernel_rfl) h

theorem mText.vc (b1 : Bool) (s2 : ByteArray) (a3 : Option Addr) (k4 : Nat) (k5 : Nat) (H : PHeap) (Q : Value → PHeap → Prop)
    (h : ∀ (k6 : Nat),
  H k6 = none →
    Triple Proofs.Tryd.prog 42 #[Value.bool b1, Value.string s2, Value.pointer (at0 k6)] (H.upd k6 (Obj.cells #[Value.pointer none, Value.slice none 0 0] 90)) fun v7 H8 =>
      v7 = Value.tuple #[] ∧
        ∃ (R9 : Rl) (M10 : Mu),
        R9 [Value.int IntKind.i64 0] H8 ∧
        ∀ (n11 : Int) (H12 : PHeap),
        R9 [Value.int IntKind.i64 n11] H12 →
        (decide (n11 < (↑k4 : Int)) = true →
        Ob (a3 ≠ none ∧ 0 ≤ n11 ∧ n11 < (↑k4 : Int)) ∧
        ∃ b13 s14,
        Reads H12 (elemA a3 n11 2) [Value.bool b13, Value.string s14] ∧
        Triple Proofs.Tryd.prog 42 #[Value.bool b13, Value.string s14, Value.pointer (at0 k6)] H12 fun v15 H16 =>
        v15 = Value.tuple #[] ∧
        R9 [Value.int IntKind.i64 (IntKind.i64.wrap (n11 + 1))] H16 ∧ Less (M10 [Value.int IntKind.i64 (IntKind.i64.wrap (n11 + 1))] H16) (M10 [Value.int IntKind.i64 n11] H12)) ∧
        (decide (n11 < (↑k4 : Int)) = false →
        Triple Proofs.Tryd.prog 46 #[Value.pointer (at0 k6)] H12 fun v17 H18 => ∃ s19, v17 = Value.string s19 ∧ Q (Value.string s19) H18)) :
    Triple Go.Proofs.Tryd.prog 31 ([Value.agg #[Value.bool b1, Value.string s2, Value.slice a3 k4 k5]]).toArray H Q :=
  Triple.of_vc mText.cx (by kernel_rfl) h

theorem mNext.vc (b1 : Bool) (s2 : ByteArray) (a3 : Option Addr) (k4 : Nat) (k5 : Nat) (H : PHeap) (Q : Value → PHeap → Prop)
    (h : ∀ (k6 : Nat), H k6 = none → Q (Value.func (Fn.func 47) #[] #[Value.pointer (at0 k6)]) (H.upd k6 (Obj.cells #[Value.bool b1, Value.string s2, Value.slice a3 k4 k5] 62))) :
    Triple Go.Proofs.Tryd.prog 32 ([Value.agg #[Value.bool b1, Value.string s2, Value.slice a3 k4 k5]]).toArray H Q :=
  Triple.of_vc mNext.cx (by kernel_rfl) h

theorem mNext1.vc (v1 : Value) (a2 : Option Addr) (H : PHeap) (Q : Value → PHeap → Prop)
    (h : Ob (a2 ≠ none) ∧
  ∃ a3 k4 k5,
    Reads H (fldA a2 2) [Value.slice a3 k4 k5] ∧
      ∃ (R6 : Rl) (M7 : Mu),
        R6 [Value.int IntKind.i64 0] H ∧
        ∀ (n8 : Int) (H9 : PHeap),
        R6 [Value.int IntKind.i64 n8] H9 →
        (decide (n8 < (↑k4 : Int)) = true →
        Ob (a3 ≠ none ∧ 0 ≤ n8 ∧ n8 < (↑k4 : Int)) ∧
        ∃ b10 s11,
        Reads H9 (elemA a3 n8 2) [Value.bool b10, Value.string s11] ∧
        Ob (a2 ≠ none) ∧
        ∃ b12,
        Reads H9 (fldA a2 0) [Value.bool b12] ∧
        ((b10 == b12) = true →
        R6 [Value.int IntKind.i64 (IntKind.i64.wrap (n8 + 1))] H9 ∧ Less (M7 [Value.int IntKind.i64 (IntKind.i64.wrap (n8 + 1))] H9) (M7 [Value.int IntKind.i64 n8] H9)) ∧
        ((b10 == b12) = false →
        Ob (a2 ≠ none) ∧
        ∃ a13 k14 k15,
        Reads H9 (fldA a2 2) [Value.slice a13 k14 k15] ∧
        Triple Proofs.Tryd.prog 28 #[Value.slice a13 k14 k15] H9 fun v16 H17 =>
        ∃ a18 k19 k20,
        v16 = Value.slice a18 k19 k20 ∧
        Triple Proofs.Tryd.prog 48 #[Value.slice a18 k19 k20, Value.int IntKind.i64 n8, Value.int IntKind.i64 (IntKind.i64.wrap (n8 + 1))] H17 fun v21 H22 =>
        ∃ a23 k24 k25,
        v21 = Value.slice a23 k24 k25 ∧
        CallY Proofs.Tryd.prog v1 #[Value.agg #[Value.bool b10, Value.string s11, Value.slice a23 k24 k25]] H22 fun v26 H27 =>
        ∃ b28,
        v26 = Value.bool b28 ∧
        ((!b28) = true → Q (Value.tuple #[]) H27) ∧
        ((!b28) = false →
        R6 [Value.int IntKind.i64 (IntKind.i64.wrap (n8 + 1))] H27 ∧
        Less (M7 [Value.int IntKind.i64 (IntKind.i64.wrap (n8 + 1))] H27) (M7 [Value.int IntKind.i64 n8] H9)))) ∧
        (decide (n8 < (↑k4 : Int)) = false → Q (Value.tuple #[]) H9)) :
    Triple Go.Proofs.Tryd.prog 47 ([v1, Value.pointer a2]).toArray H Q :=
  Triple.of_vc mNext1.cx (by kernel_rfl) h

theorem mAll.vc (a1 : Option Addr) (k2 : Nat) (k3 : Nat) (H : PHeap) (Q : Value → PHeap → Prop)
    (h : EvV Proofs.Tryd.prog (Instr.makeMap 56 none) H fun v4 H5 =>
  ∃ a6,
    v4 = Value.map a6 ∧
      ∀ (k7 : Nat),
        H5 k7 = none →
        ∃ H8,
        Writes (H5.upd k7 (Obj.cells #[Value.map none] 56)) H8 (at0 k7) [Value.map a6] ∧
        ∀ (k9 : Nat),
        H8 k9 = none →
        ∃ (R10 : Rl) (M11 : Mu),
        R10 [Value.int IntKind.i64 0] (H8.upd k9 (Obj.cells #[Value.slice none 0 0] 57)) ∧
        ∀ (n12 : Int) (H13 : PHeap),
        R10 [Value.int IntKind.i64 n12] H13 →
        (decide (n12 < (↑k2 : Int)) = true →
        Ob (a1 ≠ none ∧ 0 ≤ n12 ∧ n12 < (↑k2 : Int)) ∧
        ∃ b14 s15 a16 k17 k18,
        Reads H13 (elemA a1 n12 3) [Value.bool b14, Value.string s15, Value.slice a16 k17 k18] ∧
        ∀ (k19 : Nat),
        H13 k19 = none →
        ∃ H20,
        Writes (H13.upd k19 (Obj.cells #[Value.bool false, Value.string ({ data := #[] } : ByteArray), Value.slice none 0 0] 62)) H20 (at0 k19)
        [Value.bool b14, Value.string s15, Value.slice a16 k17 k18] ∧
        ∃ H21,
        Vx.Sub H21 H20 ∧
        ∃ a22,
        Reads H21 (at0 k7) [Value.map a22] ∧
        ∃ b23 s24 a25 k26 k27,
        Reads H21 (at0 k19) [Value.bool b23, Value.string s24, Value.slice a25 k26 k27] ∧
        Triple Proofs.Tryd.prog 31 #[Value.agg #[Value.bool b23, Value.string s24, Value.slice a25 k26 k27]] H20 fun v28 H29 =>
        ∃ s30,
        v28 = Value.string s30 ∧
        Vx.Sub H21 H29 ∧
        LookV Proofs.Tryd.prog (Instr.lookup 56 (Value.map a22) (Value.string s30) false) H21 fun v31 =>
        ∃ n32,
        v31 = Value.int IntKind.i64 n32 ∧
        EvU Proofs.Tryd.prog (Instr.mapUpdate 56 (Value.map a22) (Value.string s30) (Value.int IntKind.i64 (IntKind.i64.wrap (n32 + 1))))
        H29 fun H33 =>
        ∃ H34,
        Vx.Sub H34 H33 ∧
        ∃ a35,
        Reads H34 (at0 k7) [Value.map a35] ∧
        ∃ b36 s37 a38 k39 k40,
        Reads H34 (at0 k19) [Value.bool b36, Value.string s37, Value.slice a38 k39 k40] ∧
        Triple Proofs.Tryd.prog 31 #[Value.agg #[Value.bool b36, Value.string s37, Value.slice a38 k39 k40]] H33
        fun v41 H42 =>
        ∃ s43,
        v41 = Value.string s43 ∧
        Vx.Sub H34 H42 ∧
        LookV Proofs.Tryd.prog (Instr.lookup 56 (Value.map a35) (Value.string s43) false) H34 fun v44 =>
        ∃ n45,
        v44 = Value.int IntKind.i64 n45 ∧
        ((n45 == 1) = true →
        ∃ a46 k47 k48,
        Reads H42 (at0 k9) [Value.slice a46 k47 k48] ∧
        ∃ b49 s50 a51 k52 k53,
        Reads H42 (at0 k19)
        [Value.bool b49, Value.string s50, Value.slice a51 k52 k53] ∧
        ∀ (k54 : Nat),
        H42 k54 = none →
        EvV Proofs.Tryd.prog
        (Builtin.append_ #[57, 57] 57
        #[Value.slice a46 k47 k48, Value.slice (at0 k54) 1 1])
        (H42.upd k54
        (Obj.cells #[Value.bool b49, Value.string s50, Value.slice a51 k52 k53] 62))
        fun v55 H56 =>
        ∃ a57 k58 k59,
        v55 = Value.slice a57 k58 k59 ∧
        ∃ H60,
        Writes H56 H60 (at0 k9) [Value.slice a57 k58 k59] ∧
        R10 [Value.int IntKind.i64 (IntKind.i64.wrap (n12 + 1))] H60 ∧
        Less (M11 [Value.int IntKind.i64 (IntKind.i64.wrap (n12 + 1))] H60)
        (M11 [Value.int IntKind.i64 n12] H13)) ∧
        ((n45 == 1) = false →
        R10 [Value.int IntKind.i64 (IntKind.i64.wrap (n12 + 1))] H42 ∧
        Less (M11 [Value.int IntKind.i64 (IntKind.i64.wrap (n12 + 1))] H42)
        (M11 [Value.int IntKind.i64 n12] H13))) ∧
        (decide (n12 < (↑k2 : Int)) = false →
        ∃ (R61 : Rl) (M62 : Mu),
        R61 [Value.int IntKind.i64 0] H13 ∧
        ∀ (n63 : Int) (H64 : PHeap),
        R61 [Value.int IntKind.i64 n63] H64 →
        ∃ a65 k66 k67,
        Reads H64 (at0 k9) [Value.slice a65 k66 k67] ∧
        (decide (n63 < (↑k66 : Int)) = true →
        ∃ a68 k69 k70,
        Reads H64 (at0 k9) [Value.slice a68 k69 k70] ∧
        Ob (a68 ≠ none ∧ 0 ≤ n63 ∧ n63 < (↑k69 : Int)) ∧
        ∃ b71 s72 a73 k74 k75,
        Reads H64 (elemA a68 n63 3) [Value.bool b71, Value.string s72, Value.slice a73 k74 k75] ∧
        Triple Proofs.Tryd.prog 32 #[Value.agg #[Value.bool b71, Value.string s72, Value.slice a73 k74 k75]] H64 fun v76 H77 =>
        ∃ v78,
        v76 = v78 ∧
        ∃ (k79 : _) (E80 : (Nat → List Value → PHeap → Prop)) (J81 : (Nat → PHeap → Prop)) (J82 : (Nat → PHeap → Prop)) (H83 : _),
        Vx.Sub H83 H77 ∧
        IterOk Proofs.Tryd.prog v78 H83 k79 E80 ∧
        FitAll [Value.agg #[Value.bool false, Value.string ({ data := #[] } : ByteArray), Value.slice none 0 0]] E80 ∧
        (∀ (k84 : Nat) (H85 : PHeap), J81 k84 H85 → Vx.Sub H83 H85) ∧
        Grows J81 ∧
        J81 0 H77 ∧
        (∀ (b86 : Bool) (s87 : ByteArray) (a88 : Option Addr) (k89 k90 k91 : Nat) (H92 H93 : PHeap),
        E80 k91 [Value.agg #[Value.bool b86, Value.string s87, Value.slice a88 k89 k90]] H92 →
        Vx.Sub H92 H93 →
        J81 k91 H93 →
        ∀ (k94 : Nat),
        H93 k94 = none →
        ∃ H95,
        Writes (H93.upd k94 (Obj.cells #[Value.bool false, Value.string ({ data := #[] } : ByteArray), Value.slice none 0 0] 62))
        H95 (at0 k94) [Value.bool b86, Value.string s87, Value.slice a88 k89 k90] ∧
        ∃ H96,
        Vx.Sub H96 H95 ∧
        ∃ a97,
        Reads H96 (at0 k7) [Value.map a97] ∧
        ∃ b98 s99 a100 k101 k102,
        Reads H96 (at0 k94)
        [Value.bool b98, Value.string s99, Value.slice a100 k101 k102] ∧
        Triple Proofs.Tryd.prog 31
        #[Value.agg #[Value.bool b98, Value.string s99, Value.slice a100 k101 k102]] H95
        fun v103 H104 =>
        ∃ s105,
        v103 = Value.string s105 ∧
        Vx.Sub H96 H104 ∧
        LookV Proofs.Tryd.prog (Instr.lookup 56 (Value.map a97) (Value.string s105) false) H96
        fun v106 =>
        ∃ n107,
        v106 = Value.int IntKind.i64 n107 ∧
        EvU Proofs.Tryd.prog
        (Instr.mapUpdate 56 (Value.map a97) (Value.string s105)
        (Value.int IntKind.i64 (IntKind.i64.wrap (n107 + 1))))
        H104 fun H108 =>
        ∃ H109,
        Vx.Sub H109 H108 ∧
        ∃ a110,
        Reads H109 (at0 k7) [Value.map a110] ∧
        ∃ b111 s112 a113 k114 k115,
        Reads H109 (at0 k94)
        [Value.bool b111, Value.string s112,
        Value.slice a113 k114 k115] ∧
        Triple Proofs.Tryd.prog 31
        #[Value.agg
        #[Value.bool b111, Value.string s112,
        Value.slice a113 k114 k115]]
        H108 fun v116 H117 =>
        ∃ s118,
        v116 = Value.string s118 ∧
        Vx.Sub H109 H117 ∧
        LookV Proofs.Tryd.prog
        (Instr.lookup 56 (Value.map a110) (Value.string s118)
        false)
        H109 fun v119 =>
        ∃ n120,
        v119 = Value.int IntKind.i64 n120 ∧
        ((n120 == 1) = true →
        ∃ a121 k122 k123,
        Reads H117 (at0 k9)
        [Value.slice a121 k122 k123] ∧
        ∃ b124 s125 a126 k127 k128,
        Reads H117
        (at0 k94)
        [Value.bool b124, Value.string s125,
        Value.slice a126 k127 k128] ∧
        ∀ (k129 : Nat),
        H117 k129 = none →
        EvV Proofs.Tryd.prog
        (Builtin.append_ #[57, 57] 57
        #[Value.slice a121 k122 k123,
        Value.slice
        (at0 k129)
        1 1])
        (H117.upd k129
        (Obj.cells
        #[Value.bool b124,
        Value.string s125,
        Value.slice a126 k127 k128]
        62))
        fun v130 H131 =>
        ∃ a132 k133 k134,
        v130 =
        Value.slice a132 k133 k134 ∧
        ∃ H135,
        Writes H131 H135
        (at0 k9)
        [Value.slice a132 k133
        k134] ∧
        J81 (k91 + 1) H135) ∧
        ((n120 == 1) = false → J81 (k91 + 1) H117)) ∧
        (∀ (H136 : PHeap),
        J81 k79 H136 →
        R61 [Value.int IntKind.i64 (IntKind.i64.wrap (n63 + 1))] H136 ∧
        Less (M62 [Value.int IntKind.i64 (IntKind.i64.wrap (n63 + 1))] H136) (M62 [Value.int IntKind.i64 n63] H64)) ∧
        True ∧ True) ∧
        (decide (n63 < (↑k66 : Int)) = false →
        ∃ a137 k138 k139, Reads H64 (at0 k9) [Value.slice a137 k138 k139] ∧ Q (Value.slice a137 k138 k139) H64))) :
    Triple Go.Proofs.Tryd.prog 18 ([Value.slice a1 k2 k3]).toArray H Q :=
  Triple.of_vc mAll.cx (by kernel_rfl) h

theorem mOf.vc (a1 : Option Addr) (s2 : ByteArray) (H : PHeap) (Q : Value → PHeap → Prop)
    (h : Ob (a1 ≠ none) ∧
  Ob (a1 ≠ none) ∧
    ∃ a3,
      Reads H (fldA a1 1) [Value.map a3] ∧
        LookV Proofs.Tryd.prog (Instr.lookup 35 (Value.map a3) (Value.string s2) true) H fun v4 =>
        ∃ a5 k6 k7 b8,
        v4 = Value.tuple #[Value.slice a5 k6 k7, Value.bool b8] ∧
        (b8 = true → Q (Value.slice a5 k6 k7) H) ∧
        (b8 = false →
        ∀ (k9 : Nat), H k9 = none → Q (Value.slice (at0 k9) 1 1) (H.upd k9 (Obj.cells #[Value.bool false, Value.string ({ data := #[] } : ByteArray), Value.slice none 0 0] 62)))) :
    Triple Go.Proofs.Tryd.prog 19 ([Value.pointer a1, Value.string s2]).toArray H Q :=
  Triple.of_vc mOf.cx (by kernel_rfl) h

theorem mSet.vc (a1 : Option Addr) (s2 : ByteArray) (a3 : Option Addr) (k4 : Nat) (k5 : Nat) (H : PHeap) (Q : Value → PHeap → Prop)
    (h : Ob (a1 ≠ none) ∧
  Ob (a1 ≠ none) ∧
    ∃ a6,
      Reads H (fldA a1 1) [Value.map a6] ∧
        (a6.isNone = true →
        EvV Proofs.Tryd.prog (Instr.makeMap 35 none) H fun v7 H8 =>
        ∃ a9,
        v7 = Value.map a9 ∧
        Ob (a1 ≠ none) ∧
        Ob (a1 ≠ none) ∧
        ∃ H10,
        Writes H8 H10 (fldA a1 1) [Value.map a9] ∧
        Ob (a1 ≠ none) ∧
        Ob (a1 ≠ none) ∧
        ∃ a11,
        Reads H10 (fldA a1 1) [Value.map a11] ∧
        EvU Proofs.Tryd.prog (Instr.mapUpdate 35 (Value.map a11) (Value.string s2) (Value.slice a3 k4 k5)) H10 fun H12 => Q (Value.tuple #[]) H12) ∧
        (a6.isNone = false →
        Ob (a1 ≠ none) ∧
        Ob (a1 ≠ none) ∧
        ∃ a13, Reads H (fldA a1 1) [Value.map a13] ∧ EvU Proofs.Tryd.prog (Instr.mapUpdate 35 (Value.map a13) (Value.string s2) (Value.slice a3 k4 k5)) H fun H14 => Q (Value.tuple #[]) H14)) :
    Triple Go.Proofs.Tryd.prog 29 ([Value.pointer a1, Value.string s2, Value.slice a3 k4 k5]).toArray H Q :=
  Triple.of_vc mSet.cx (by kernel_rfl) h

theorem mDrift.vc (a1 : Option Addr) (n2 : Int) (s3 : ByteArray) (a4 : Option Addr) (k5 : Nat) (k6 : Nat) (H : PHeap) (Q : Value → PHeap → Prop)
    (h : ((bif n2 != 1 then n2 != 3 else false) = true → Q (Value.tuple #[]) H) ∧
  ((bif n2 != 1 then n2 != 3 else false) = false →
    LookV Proofs.Tryd.prog (convert 23 9 (Value.slice a4 k5 k6)) H fun v7 =>
      ∃ s8,
        v7 = Value.string s8 ∧
        Triple Proofs.Tryd.prog 19 #[Value.pointer a1, Value.string s3] H fun v9 H10 =>
        ∃ a11 k12 k13,
        v9 = Value.slice a11 k12 k13 ∧
        ∃ (R14 : Rl) (M15 : Mu),
        R14 [Value.slice none 0 0, Value.int IntKind.i64 0] H10 ∧
        ∀ (a16 : Option Addr) (k17 k18 : Nat) (n19 : Int) (H20 : PHeap),
        R14 [Value.slice a16 k17 k18, Value.int IntKind.i64 n19] H20 →
        (decide (n19 < (↑k12 : Int)) = true →
        Ob (a11 ≠ none ∧ 0 ≤ n19 ∧ n19 < (↑k12 : Int)) ∧
        ∃ b21 s22 a23 k24 k25,
        Reads H20 (elemA a11 n19 3) [Value.bool b21, Value.string s22, Value.slice a23 k24 k25] ∧
        ∀ (k26 : Nat),
        H20 k26 = none →
        ∃ H27,
        Writes (H20.upd k26 (Obj.cells #[Value.bool false, Value.string ({ data := #[] } : ByteArray), Value.slice none 0 0] 62)) H27 (at0 k26)
        [Value.bool b21, Value.string s22, Value.slice a23 k24 k25] ∧
        ∃ H28,
        Vx.Sub H28 H27 ∧
        Ob (at0 k26 ≠ none) ∧
        ∃ a29 k30 k31,
        Reads H28 (fldA (at0 k26) 2) [Value.slice a29 k30 k31] ∧
        Triple Proofs.Tryd.prog 28 #[Value.slice a29 k30 k31] H27 fun v32 H33 =>
        ∃ a34 k35 k36,
        v32 = Value.slice a34 k35 k36 ∧
        Vx.Sub H28 H33 ∧
        ∀ (k37 : Nat),
        H33 k37 = none →
        Vx.Sub H28 (H33.upd k37 (Obj.cells #[Value.bool (n2 == 1), Value.string s8] 71)) ∧
        EvV Proofs.Tryd.prog (Builtin.append_ #[60, 60] 60 #[Value.slice a34 k35 k36, Value.slice (at0 k37) 1 1])
        (H33.upd k37 (Obj.cells #[Value.bool (n2 == 1), Value.string s8] 71)) fun v38 H39 =>
        ∃ a40 k41 k42,
        v38 = Value.slice a40 k41 k42 ∧
        Ob (at0 k26 ≠ none) ∧
        ∃ H43,
        Writes H39 H43 (fldA (at0 k26) 2) [Value.slice a40 k41 k42] ∧
        ∃ b44 s45 a46 k47 k48,
        Reads H43 (at0 k26) [Value.bool b44, Value.string s45, Value.slice a46 k47 k48] ∧
        ∀ (k49 : Nat),
        H43 k49 = none →
        EvV Proofs.Tryd.prog
        (Builtin.append_ #[57, 57] 57 #[Value.slice a16 k17 k18, Value.slice (at0 k49) 1 1])
        (H43.upd k49 (Obj.cells #[Value.bool b44, Value.string s45, Value.slice a46 k47 k48] 62)) fun v50 H51 =>
        ∃ a52 k53 k54,
        v50 = Value.slice a52 k53 k54 ∧
        R14 [Value.slice a52 k53 k54, Value.int IntKind.i64 (IntKind.i64.wrap (n19 + 1))] H51 ∧
        Less (M15 [Value.slice a52 k53 k54, Value.int IntKind.i64 (IntKind.i64.wrap (n19 + 1))] H51)
        (M15 [Value.slice a16 k17 k18, Value.int IntKind.i64 n19] H20)) ∧
        (decide (n19 < (↑k12 : Int)) = false →
        Triple Proofs.Tryd.prog 29 #[Value.pointer a1, Value.string s3, Value.slice a16 k17 k18] H20 fun v55 H56 => v55 = Value.tuple #[] ∧ Q (Value.tuple #[]) H56))) :
    Triple Go.Proofs.Tryd.prog 16 ([Value.pointer a1, Value.agg #[Value.int IntKind.i64 n2, Value.string s3, Value.slice a4 k5 k6]]).toArray H Q :=
  Triple.of_vc mDrift.cx (by kernel_rfl) h

theorem mKeep.vc (a1 : Option Addr) (s2 : ByteArray) (v3 : Value) (H : PHeap) (Q : Value → PHeap → Prop)
    (h : Triple Proofs.Tryd.prog 19 #[Value.pointer a1, Value.string s2] H fun v4 H5 =>
  ∃ a6 k7 k8,
    v4 = Value.slice a6 k7 k8 ∧
      Triple Proofs.Tryd.prog 18 #[Value.slice a6 k7 k8] H5 fun v9 H10 =>
        ∃ a11 k12 k13,
        v9 = Value.slice a11 k12 k13 ∧
        ∃ (R14 : Rl) (M15 : Mu),
        R14 [Value.slice none 0 0, Value.int IntKind.i64 0] H10 ∧
        ∀ (a16 : Option Addr) (k17 k18 : Nat) (n19 : Int) (H20 : PHeap),
        R14 [Value.slice a16 k17 k18, Value.int IntKind.i64 n19] H20 →
        (decide (n19 < (↑k12 : Int)) = true →
        Ob (a11 ≠ none ∧ 0 ≤ n19 ∧ n19 < (↑k12 : Int)) ∧
        ∃ b21 s22 a23 k24 k25,
        Reads H20 (elemA a11 n19 3) [Value.bool b21, Value.string s22, Value.slice a23 k24 k25] ∧
        ∀ (k26 : Nat),
        H20 k26 = none →
        ∃ H27,
        Writes (H20.upd k26 (Obj.cells #[Value.bool false, Value.string ({ data := #[] } : ByteArray), Value.slice none 0 0] 62)) H27 (at0 k26)
        [Value.bool b21, Value.string s22, Value.slice a23 k24 k25] ∧
        CallY Proofs.Tryd.prog v3 #[Value.pointer (at0 k26)] H27 fun v28 H29 =>
        ∃ b30,
        v28 = Value.bool b30 ∧
        (b30 = true →
        ∃ b31 s32 a33 k34 k35,
        Reads H29 (at0 k26) [Value.bool b31, Value.string s32, Value.slice a33 k34 k35] ∧
        ∀ (k36 : Nat),
        H29 k36 = none →
        EvV Proofs.Tryd.prog (Builtin.append_ #[57, 57] 57 #[Value.slice a16 k17 k18, Value.slice (at0 k36) 1 1])
        (H29.upd k36 (Obj.cells #[Value.bool b31, Value.string s32, Value.slice a33 k34 k35] 62)) fun v37 H38 =>
        ∃ a39 k40 k41,
        v37 = Value.slice a39 k40 k41 ∧
        R14 [Value.slice a39 k40 k41, Value.int IntKind.i64 (IntKind.i64.wrap (n19 + 1))] H38 ∧
        Less (M15 [Value.slice a39 k40 k41, Value.int IntKind.i64 (IntKind.i64.wrap (n19 + 1))] H38)
        (M15 [Value.slice a16 k17 k18, Value.int IntKind.i64 n19] H20)) ∧
        (b30 = false →
        R14 [Value.slice a16 k17 k18, Value.int IntKind.i64 (IntKind.i64.wrap (n19 + 1))] H29 ∧
        Less (M15 [Value.slice a16 k17 k18, Value.int IntKind.i64 (IntKind.i64.wrap (n19 + 1))] H29)
        (M15 [Value.slice a16 k17 k18, Value.int IntKind.i64 n19] H20))) ∧
        (decide (n19 < (↑k12 : Int)) = false →
        (decide ((↑k17 : Int) > 0) = true →
        Triple Proofs.Tryd.prog 29 #[Value.pointer a1, Value.string s2, Value.slice a16 k17 k18] H20 fun v42 H43 =>
        v42 = Value.tuple #[] ∧ Q (Value.bool (decide ((↑k17 : Int) > 0))) H43) ∧
        (decide ((↑k17 : Int) > 0) = false → Q (Value.bool (decide ((↑k17 : Int) > 0))) H20))) :
    Triple Go.Proofs.Tryd.prog 39 ([Value.pointer a1, Value.string s2, v3]).toArray H Q :=
  Triple.of_vc mKeep.cx (by kernel_rfl) h

theorem mThere.vc (a1 : Option Addr) (H : PHeap) (Q : Value → PHeap → Prop)
    (h : Ob (a1 ≠ none) ∧ Ob (a1 ≠ none) ∧ ∃ b2, Reads H (fldA a1 0) [Value.bool b2] ∧ Q (Value.bool b2) H) :
    Triple Go.Proofs.Tryd.prog 40 ([Value.pointer a1]).toArray H Q :=
  Triple.of_vc mThere.cx (by kernel_rfl) h

theorem mNone.vc (a1 : Option Addr) (H : PHeap) (Q : Value → PHeap → Prop)
    (h : Ob (a1 ≠ none) ∧ Ob (a1 ≠ none) ∧ ∃ b2, Reads H (fldA a1 0) [Value.bool b2] ∧ Q (Value.bool !b2) H) :
    Triple Go.Proofs.Tryd.prog 41 ([Value.pointer a1]).toArray H Q :=
  Triple.of_vc mNone.cx (by kernel_rfl) h

theorem mPlain.vc (n1 : Int) (n2 : Int) (a3 : Option Addr) (k4 : Nat) (k5 : Nat) (a6 : Option Addr) (k7 : Nat) (k8 : Nat) (H : PHeap) (Q : Value → PHeap → Prop)
    (h : Q (Value.bool (bif n2 == 0 then bif (↑k4 : Int) == 0 then (↑k7 : Int) == 0 else false else false)) H) :
    Triple Go.Proofs.Tryd.prog 27 ([Value.agg #[Value.int IntKind.i64 n1, Value.int IntKind.i64 n2, Value.slice a3 k4 k5, Value.slice a6 k7 k8]]).toArray H Q :=
  Triple.of_vc mPlain.cx (by kernel_rfl) h

theorem mList.vc (a1 : Option Addr) (n2 : Int) (n3 : Int) (a4 : Option Addr) (k5 : Nat) (k6 : Nat) (a7 : Option Addr) (k8 : Nat) (k9 : Nat) (H : PHeap) (Q : Value → PHeap → Prop)
    (h : ∃ H10,
  Vx.Sub H10 H ∧
    ((n3 != 0) = false →
        (((↑k5 : Int) != 0) = false →
        Triple Proofs.Tryd.prog 74 #[Value.slice a7 k8 k9] H fun v11 H12 =>
        ∃ b13,
        v11 = Value.bool b13 ∧
        Vx.Sub H10 H12 ∧
        ((!b13) = false →
        Triple Proofs.Tryd.prog 76 #[Value.slice a7 k8 k9] H12 fun v14 H15 =>
        ∃ a16 k17 k18,
        v14 = Value.slice a16 k17 k18 ∧
        Vx.Sub H10 H15 ∧
        Triple Proofs.Tryd.prog 75 #[Value.slice a16 k17 k18] H15 fun v19 H20 =>
        ∃ a21 k22 k23,
        v19 = Value.slice a21 k22 k23 ∧
        Vx.Sub H10 H20 ∧
        (((↑k22 : Int) != (↑k8 : Int)) = true → Q (Value.bool false) H20) ∧
        (((↑k22 : Int) != (↑k8 : Int)) = false →
        Ob (a1 ≠ none) ∧
        Ob (a1 ≠ none) ∧
        ∃ a24 k25 k26,
        Reads H20 (fldA a1 0) [Value.slice a24 k25 k26] ∧
        ∃ (R27 : Rl) (M28 : Mu),
        R27 [Value.slice none 0 0, Value.int IntKind.i64 0] H20 ∧
        ∀ (a29 : Option Addr) (k30 k31 : Nat) (n32 : Int) (H33 : PHeap),
        R27 [Value.slice a29 k30 k31, Value.int IntKind.i64 n32] H33 →
        (decide (n32 < (↑k25 : Int)) = true →
        Ob (a24 ≠ none ∧ 0 ≤ n32 ∧ n32 < (↑k25 : Int)) ∧
        ∃ n34 s35 a36 k37 k38 b39 b40,
        Reads H33 (elemA a24 n32 5) [Value.int IntKind.i64 n34, Value.string s35, Value.slice a36 k37 k38, Value.bool b39, Value.bool b40] ∧
        ((n34 != 4) = true →
        Triple Proofs.Tryd.prog 77 #[Value.slice a29 k30 k31, Value.string s35] H33 fun v41 H42 =>
        ∃ b43,
        v41 = Value.bool b43 ∧
        ((!b43) = true →
        ∀ (k44 : Nat),
        H42 k44 = none →
        EvV Proofs.Tryd.prog
        (Builtin.append_ #[27, 27] 27 #[Value.slice a29 k30 k31, Value.slice (at0 k44) 1 1])
        (H42.upd k44 (Obj.cells #[Value.string s35] 9)) fun v45 H46 =>
        ∃ a47 k48 k49,
        v45 = Value.slice a47 k48 k49 ∧
        R27 [Value.slice a47 k48 k49, Value.int IntKind.i64 (IntKind.i64.wrap (n32 + 1))] H46 ∧
        Less (M28 [Value.slice a47 k48 k49, Value.int IntKind.i64 (IntKind.i64.wrap (n32 + 1))] H46)
        (M28 [Value.slice a29 k30 k31, Value.int IntKind.i64 n32] H33)) ∧
        ((!b43) = false →
        R27 [Value.slice a29 k30 k31, Value.int IntKind.i64 (IntKind.i64.wrap (n32 + 1))] H42 ∧
        Less (M28 [Value.slice a29 k30 k31, Value.int IntKind.i64 (IntKind.i64.wrap (n32 + 1))] H42)
        (M28 [Value.slice a29 k30 k31, Value.int IntKind.i64 n32] H33))) ∧
        ((n34 != 4) = !true →
        R27 [Value.slice a29 k30 k31, Value.int IntKind.i64 (IntKind.i64.wrap (n32 + 1))] H33 ∧
        Less (M28 [Value.slice a29 k30 k31, Value.int IntKind.i64 (IntKind.i64.wrap (n32 + 1))] H33)
        (M28 [Value.slice a29 k30 k31, Value.int IntKind.i64 n32] H33))) ∧
        (decide (n32 < (↑k25 : Int)) = false →
        Triple Proofs.Tryd.prog 78 #[Value.pointer a1] H33 fun v50 H51 =>
        ∃ a52,
        v50 = Value.map a52 ∧
        ∃ (R53 : Rl) (M54 : Mu),
        R53 [Value.int IntKind.i64 0] H51 ∧
        ∀ (n55 : Int) (H56 : PHeap),
        R53 [Value.int IntKind.i64 n55] H56 →
        (decide (n55 < (↑k8 : Int)) = true →
        Ob (a7 ≠ none ∧ 0 ≤ n55 ∧ n55 < (↑k8 : Int)) ∧
        ∃ s57,
        Reads H56 (elemA a7 n55 1) [Value.string s57] ∧
        Triple Proofs.Tryd.prog 77 #[Value.slice a29 k30 k31, Value.string s57] H56 fun v58 H59 =>
        ∃ b60,
        v58 = Value.bool b60 ∧
        ((!b60) = true → Q (Value.bool false) H59) ∧
        ((!b60) = false →
        R53 [Value.int IntKind.i64 (IntKind.i64.wrap (n55 + 1))] H59 ∧
        Less (M54 [Value.int IntKind.i64 (IntKind.i64.wrap (n55 + 1))] H59)
        (M54 [Value.int IntKind.i64 n55] H56))) ∧
        (decide (n55 < (↑k8 : Int)) = false →
        ∃ (R61 : Rl) (M62 : Mu),
        R61 [Value.int IntKind.i64 0] H56 ∧
        ∀ (n63 : Int) (H64 : PHeap),
        R61 [Value.int IntKind.i64 n63] H64 →
        (decide (n63 < (↑k30 : Int)) = true →
        Ob (a29 ≠ none ∧ 0 ≤ n63 ∧ n63 < (↑k30 : Int)) ∧
        ∃ s65,
        Reads H64 (elemA a29 n63 1) [Value.string s65] ∧
        Triple Proofs.Tryd.prog 77 #[Value.slice a7 k8 k9, Value.string s65] H64 fun v66 H67 =>
        ∃ b68,
        v66 = Value.bool b68 ∧
        Triple Proofs.Tryd.prog 39
        #[Value.pointer a1, Value.string s65,
        bif b68 then Value.func (Fn.func 40) #[] #[] else Value.func (Fn.func 41) #[] #[]]
        H67 fun v69 H70 =>
        ∃ b71,
        v69 = Value.bool b71 ∧
        ((!b71) = true →
        Ob (a1 ≠ none) ∧
        Ob (a1 ≠ none) ∧
        ∃ H72, Writes H70 H72 (fldA a1 1) [Value.map a52] ∧ Q (Value.bool false) H72) ∧
        ((!b71) = false →
        R61 [Value.int IntKind.i64 (IntKind.i64.wrap (n63 + 1))] H70 ∧
        Less (M62 [Value.int IntKind.i64 (IntKind.i64.wrap (n63 + 1))] H70)
        (M62 [Value.int IntKind.i64 n63] H64))) ∧
        (decide (n63 < (↑k30 : Int)) = false → Q (Value.bool true) H64))))) ∧
        ((!b13) = !false → Q (Value.bool false) H12)) ∧
        (((↑k5 : Int) != 0) = !false → Q (Value.bool false) H)) ∧
      ((n3 != 0) = !false → Q (Value.bool false) H)) :
    Triple Go.Proofs.Tryd.prog 64 ([Value.pointer a1, Value.agg #[Value.int IntKind.i64 n2, Value.int IntKind.i64 n3, Value.slice a4 k5 k6, Value.slice a7 k8 k9]]).toArray H Q :=
  Triple.of_vc mList.cx (by kernel_rfl) h

theorem mCopy.vc (a1 : Option Addr) (H : PHeap) (Q : Value → PHeap → Prop)
    (h : EvV Proofs.Tryd.prog (Instr.makeMap 35 none) H fun v2 H3 =>
  ∃ a4,
    v2 = Value.map a4 ∧
      Ob (a1 ≠ none) ∧
        Ob (a1 ≠ none) ∧
        ∃ a5,
        Reads H3 (fldA a1 1) [Value.map a5] ∧
        EvV Proofs.Tryd.prog (Instr.range 35 (Value.map a5)) H3 fun v6 H7 =>
        ∃ a8,
        v6 = Value.pointer a8 ∧
        ∃ (R9 : Rl) (M10 : Mu),
        R9 [] H7 ∧
        ∀ (H11 : PHeap),
        R9 [] H11 →
        EvV Proofs.Tryd.prog (Instr.next (Value.pointer a8) false 0) H11 fun v12 H13 =>
        v12 = Value.tuple #[Value.bool false] ∧
        (false = true →
        EvV Proofs.Tryd.prog (Instr.entry (Value.pointer a8)) H13 fun v14 H15 =>
        ∃ s16 a17 k18 k19,
        v14 = Value.tuple #[Value.string s16, Value.slice a17 k18 k19] ∧
        EvU Proofs.Tryd.prog (Instr.mapUpdate 35 (Value.map a4) (Value.string s16) (Value.slice a17 k18 k19)) H15 fun H20 =>
        R9 [] H20 ∧ Less (M10 [] H20) (M10 [] H11)) ∧
        (false = false → Q (Value.map a4) H13) ∨
        ∃ v21 v22,
        v12 = Value.tuple #[Value.bool true, v21, v22] ∧
        (true = true →
        EvV Proofs.Tryd.prog (Instr.entry (Value.pointer a8)) H13 fun v23 H24 =>
        ∃ s25 a26 k27 k28,
        v23 = Value.tuple #[Value.string s25, Value.slice a26 k27 k28] ∧
        EvU Proofs.Tryd.prog (Instr.mapUpdate 35 (Value.map a4) (Value.string s25) (Value.slice a26 k27 k28)) H24 fun H29 =>
        R9 [] H29 ∧ Less (M10 [] H29) (M10 [] H11)) ∧
        (true = false → Q (Value.map a4) H13)) :
    Triple Go.Proofs.Tryd.prog 78 ([Value.pointer a1]).toArray H Q :=
  Triple.of_vc mCopy.cx (by kernel_rfl) h

theorem mDone.vc (a1 : Option Addr) (n2 : Int) (s3 : ByteArray) (a4 : Option Addr) (k5 : Nat) (k6 : Nat) (n7 : Int) (n8 : Int) (a9 : Option Addr) (k10 : Nat) (k11 : Nat) (a12 : Option Addr) (k13 : Nat) (k14 : Nat) (H : PHeap) (Q : Value → PHeap → Prop)
    (h : ∀ (k15 : Nat),
  H k15 = none →
    ∀ (k16 : Nat),
      H.upd k15 (Obj.cells #[Value.int IntKind.i64 n2, Value.string s3, Value.slice a4 k5 k6] 25) k16 = none →
        Ob (at0 k15 ≠ none) ∧
        ∃ n17,
        Reads
        ((H.upd k15 (Obj.cells #[Value.int IntKind.i64 n2, Value.string s3, Value.slice a4 k5 k6] 25)).upd k16
        (Obj.cells #[Value.int IntKind.i64 n7, Value.int IntKind.i64 n8, Value.slice a9 k10 k11, Value.slice a12 k13 k14] 29))
        (fldA (at0 k15) 0) [Value.int IntKind.i64 n17] ∧
        ((n17 == 1) = true →
        ∃ n18 n19 a20 k21 k22 a23 k24 k25,
        Reads
        ((H.upd k15 (Obj.cells #[Value.int IntKind.i64 n2, Value.string s3, Value.slice a4 k5 k6] 25)).upd k16
        (Obj.cells #[Value.int IntKind.i64 n7, Value.int IntKind.i64 n8, Value.slice a9 k10 k11, Value.slice a12 k13 k14] 29))
        (at0 k16) [Value.int IntKind.i64 n18, Value.int IntKind.i64 n19, Value.slice a20 k21 k22, Value.slice a23 k24 k25] ∧
        Triple Proofs.Tryd.prog 27 #[Value.agg #[Value.int IntKind.i64 n18, Value.int IntKind.i64 n19, Value.slice a20 k21 k22, Value.slice a23 k24 k25]]
        ((H.upd k15 (Obj.cells #[Value.int IntKind.i64 n2, Value.string s3, Value.slice a4 k5 k6] 25)).upd k16
        (Obj.cells #[Value.int IntKind.i64 n7, Value.int IntKind.i64 n8, Value.slice a9 k10 k11, Value.slice a12 k13 k14] 29))
        fun v26 H27 =>
        ∃ b28,
        v26 = Value.bool b28 ∧
        (b28 = true →
        Ob (at0 k15 ≠ none) ∧
        ∃ s29,
        Reads H27 (fldA (at0 k15) 1) [Value.string s29] ∧
        Triple Proofs.Tryd.prog 39 #[Value.pointer a1, Value.string s29, Value.func (Fn.func 60) #[] #[Value.pointer (at0 k15)]] H27
        fun v30 H31 => ∃ b32, v30 = Value.bool b32 ∧ Q (Value.bool b32) H31) ∧
        (b28 = !true → Q (Value.bool false) H27)) ∧
        ((n17 == 1) = false →
        ((n17 == 2) = true →
        Ob (at0 k16 ≠ none) ∧
        ∃ n33,
        Reads
        ((H.upd k15 (Obj.cells #[Value.int IntKind.i64 n2, Value.string s3, Value.slice a4 k5 k6] 25)).upd k16
        (Obj.cells #[Value.int IntKind.i64 n7, Value.int IntKind.i64 n8, Value.slice a9 k10 k11, Value.slice a12 k13 k14] 29))
        (fldA (at0 k16) 1) [Value.int IntKind.i64 n33] ∧
        ((n33 == 0) = true →
        Ob (at0 k16 ≠ none) ∧
        ∃ a34 k35 k36,
        Reads
        ((H.upd k15 (Obj.cells #[Value.int IntKind.i64 n2, Value.string s3, Value.slice a4 k5 k6] 25)).upd k16
        (Obj.cells #[Value.int IntKind.i64 n7, Value.int IntKind.i64 n8, Value.slice a9 k10 k11, Value.slice a12 k13 k14] 29))
        (fldA (at0 k16) 3) [Value.slice a34 k35 k36] ∧
        (((↑k35 : Int) == 0) = true →
        Ob (at0 k15 ≠ none) ∧
        ∃ s37,
        Reads
        ((H.upd k15 (Obj.cells #[Value.int IntKind.i64 n2, Value.string s3, Value.slice a4 k5 k6] 25)).upd k16
        (Obj.cells #[Value.int IntKind.i64 n7, Value.int IntKind.i64 n8, Value.slice a9 k10 k11, Value.slice a12 k13 k14] 29))
        (fldA (at0 k15) 1) [Value.string s37] ∧
        Triple Proofs.Tryd.prog 39 #[Value.pointer a1, Value.string s37, Value.func (Fn.func 61) #[] #[Value.pointer (at0 k16)]]
        ((H.upd k15 (Obj.cells #[Value.int IntKind.i64 n2, Value.string s3, Value.slice a4 k5 k6] 25)).upd k16
        (Obj.cells #[Value.int IntKind.i64 n7, Value.int IntKind.i64 n8, Value.slice a9 k10 k11, Value.slice a12 k13 k14] 29))
        fun v38 H39 => ∃ b40, v38 = Value.bool b40 ∧ Q (Value.bool b40) H39) ∧
        (((↑k35 : Int) == 0) = !true →
        Q (Value.bool false)
        ((H.upd k15 (Obj.cells #[Value.int IntKind.i64 n2, Value.string s3, Value.slice a4 k5 k6] 25)).upd k16
        (Obj.cells #[Value.int IntKind.i64 n7, Value.int IntKind.i64 n8, Value.slice a9 k10 k11, Value.slice a12 k13 k14] 29)))) ∧
        ((n33 == 0) = !true →
        Q (Value.bool false)
        ((H.upd k15 (Obj.cells #[Value.int IntKind.i64 n2, Value.string s3, Value.slice a4 k5 k6] 25)).upd k16
        (Obj.cells #[Value.int IntKind.i64 n7, Value.int IntKind.i64 n8, Value.slice a9 k10 k11, Value.slice a12 k13 k14] 29)))) ∧
        ((n17 == 2) = false →
        ((n17 == 3) = true →
        ∃ n41 n42 a43 k44 k45 a46 k47 k48,
        Reads
        ((H.upd k15 (Obj.cells #[Value.int IntKind.i64 n2, Value.string s3, Value.slice a4 k5 k6] 25)).upd k16
        (Obj.cells #[Value.int IntKind.i64 n7, Value.int IntKind.i64 n8, Value.slice a9 k10 k11, Value.slice a12 k13 k14] 29))
        (at0 k16) [Value.int IntKind.i64 n41, Value.int IntKind.i64 n42, Value.slice a43 k44 k45, Value.slice a46 k47 k48] ∧
        Triple Proofs.Tryd.prog 27 #[Value.agg #[Value.int IntKind.i64 n41, Value.int IntKind.i64 n42, Value.slice a43 k44 k45, Value.slice a46 k47 k48]]
        ((H.upd k15 (Obj.cells #[Value.int IntKind.i64 n2, Value.string s3, Value.slice a4 k5 k6] 25)).upd k16
        (Obj.cells #[Value.int IntKind.i64 n7, Value.int IntKind.i64 n8, Value.slice a9 k10 k11, Value.slice a12 k13 k14] 29))
        fun v49 H50 =>
        ∃ b51,
        v49 = Value.bool b51 ∧
        (b51 = true →
        Ob (at0 k15 ≠ none) ∧
        ∃ s52,
        Reads H50 (fldA (at0 k15) 1) [Value.string s52] ∧
        Triple Proofs.Tryd.prog 39 #[Value.pointer a1, Value.string s52, Value.func (Fn.func 62) #[] #[]] H50 fun v53 H54 =>
        ∃ b55, v53 = Value.bool b55 ∧ Q (Value.bool b55) H54) ∧
        (b51 = !true → Q (Value.bool false) H50)) ∧
        ((n17 == 3) = false →
        ((n17 == 5) = true →
        Ob (at0 k16 ≠ none) ∧
        ∃ a56 k57 k58,
        Reads
        ((H.upd k15 (Obj.cells #[Value.int IntKind.i64 n2, Value.string s3, Value.slice a4 k5 k6] 25)).upd k16
        (Obj.cells #[Value.int IntKind.i64 n7, Value.int IntKind.i64 n8, Value.slice a9 k10 k11, Value.slice a12 k13 k14] 29))
        (fldA (at0 k16) 2) [Value.slice a56 k57 k58] ∧
        (((↑k57 : Int) == 0) = true →
        Ob (at0 k16 ≠ none) ∧
        ∃ a59 k60 k61,
        Reads
        ((H.upd k15 (Obj.cells #[Value.int IntKind.i64 n2, Value.string s3, Value.slice a4 k5 k6] 25)).upd k16
        (Obj.cells #[Value.int IntKind.i64 n7, Value.int IntKind.i64 n8, Value.slice a9 k10 k11, Value.slice a12 k13 k14] 29))
        (fldA (at0 k16) 3) [Value.slice a59 k60 k61] ∧
        (((↑k60 : Int) == 0) = true →
        Ob (at0 k15 ≠ none) ∧
        ∃ s62,
        Reads
        ((H.upd k15 (Obj.cells #[Value.int IntKind.i64 n2, Value.string s3, Value.slice a4 k5 k6] 25)).upd k16
        (Obj.cells #[Value.int IntKind.i64 n7, Value.int IntKind.i64 n8, Value.slice a9 k10 k11, Value.slice a12 k13 k14] 29))
        (fldA (at0 k15) 1) [Value.string s62] ∧
        Triple Proofs.Tryd.prog 39 #[Value.pointer a1, Value.string s62, Value.func (Fn.func 63) #[] #[Value.pointer (at0 k16)]]
        ((H.upd k15 (Obj.cells #[Value.int IntKind.i64 n2, Value.string s3, Value.slice a4 k5 k6] 25)).upd k16
        (Obj.cells #[Value.int IntKind.i64 n7, Value.int IntKind.i64 n8, Value.slice a9 k10 k11, Value.slice a12 k13 k14] 29))
        fun v63 H64 => ∃ b65, v63 = Value.bool b65 ∧ Q (Value.bool b65) H64) ∧
        (((↑k60 : Int) == 0) = !true →
        Q (Value.bool false)
        ((H.upd k15 (Obj.cells #[Value.int IntKind.i64 n2, Value.string s3, Value.slice a4 k5 k6] 25)).upd k16
        (Obj.cells #[Value.int IntKind.i64 n7, Value.int IntKind.i64 n8, Value.slice a9 k10 k11, Value.slice a12 k13 k14] 29)))) ∧
        (((↑k57 : Int) == 0) = !true →
        Q (Value.bool false)
        ((H.upd k15 (Obj.cells #[Value.int IntKind.i64 n2, Value.string s3, Value.slice a4 k5 k6] 25)).upd k16
        (Obj.cells #[Value.int IntKind.i64 n7, Value.int IntKind.i64 n8, Value.slice a9 k10 k11, Value.slice a12 k13 k14] 29)))) ∧
        ((n17 == 5) = false →
        ((n17 == 6) = true →
        ∃ n66 n67 a68 k69 k70 a71 k72 k73,
        Reads
        ((H.upd k15 (Obj.cells #[Value.int IntKind.i64 n2, Value.string s3, Value.slice a4 k5 k6] 25)).upd k16
        (Obj.cells #[Value.int IntKind.i64 n7, Value.int IntKind.i64 n8, Value.slice a9 k10 k11, Value.slice a12 k13 k14] 29))
        (at0 k16) [Value.int IntKind.i64 n66, Value.int IntKind.i64 n67, Value.slice a68 k69 k70, Value.slice a71 k72 k73] ∧
        Triple Proofs.Tryd.prog 27 #[Value.agg #[Value.int IntKind.i64 n66, Value.int IntKind.i64 n67, Value.slice a68 k69 k70, Value.slice a71 k72 k73]]
        ((H.upd k15 (Obj.cells #[Value.int IntKind.i64 n2, Value.string s3, Value.slice a4 k5 k6] 25)).upd k16
        (Obj.cells #[Value.int IntKind.i64 n7, Value.int IntKind.i64 n8, Value.slice a9 k10 k11, Value.slice a12 k13 k14] 29))
        fun v74 H75 =>
        ∃ b76,
        v74 = Value.bool b76 ∧
        (b76 = true →
        Ob (at0 k15 ≠ none) ∧
        ∃ s77,
        Reads H75 (fldA (at0 k15) 1) [Value.string s77] ∧
        Triple Proofs.Tryd.prog 39 #[Value.pointer a1, Value.string s77, Value.func (Fn.func 40) #[] #[]] H75 fun v78 H79 =>
        ∃ b80, v78 = Value.bool b80 ∧ Q (Value.bool b80) H79) ∧
        (b76 = !true → Q (Value.bool false) H75)) ∧
        ((n17 == 6) = false →
        ∃ n81 n82 a83 k84 k85 a86 k87 k88,
        Reads
        ((H.upd k15 (Obj.cells #[Value.int IntKind.i64 n2, Value.string s3, Value.slice a4 k5 k6] 25)).upd k16
        (Obj.cells #[Value.int IntKind.i64 n7, Value.int IntKind.i64 n8, Value.slice a9 k10 k11, Value.slice a12 k13 k14] 29))
        (at0 k16) [Value.int IntKind.i64 n81, Value.int IntKind.i64 n82, Value.slice a83 k84 k85, Value.slice a86 k87 k88] ∧
        Triple Proofs.Tryd.prog 64
        #[Value.pointer a1, Value.agg #[Value.int IntKind.i64 n81, Value.int IntKind.i64 n82, Value.slice a83 k84 k85, Value.slice a86 k87 k88]]
        ((H.upd k15 (Obj.cells #[Value.int IntKind.i64 n2, Value.string s3, Value.slice a4 k5 k6] 25)).upd k16
        (Obj.cells #[Value.int IntKind.i64 n7, Value.int IntKind.i64 n8, Value.slice a9 k10 k11, Value.slice a12 k13 k14] 29))
        fun v89 H90 => ∃ b91, v89 = Value.bool b91 ∧ Q (Value.bool b91) H90)))))) :
    Triple Go.Proofs.Tryd.prog 38 ([Value.pointer a1, Value.agg #[Value.int IntKind.i64 n2, Value.string s3, Value.slice a4 k5 k6],
  Value.agg #[Value.int IntKind.i64 n7, Value.int IntKind.i64 n8, Value.slice a9 k10 k11, Value.slice a12 k13 k14]]).toArray H Q :=
  Triple.of_vc mDone.cx (by kernel_rfl) h

theorem mDone1.vc (a1 : Option Addr) (a2 : Option Addr) (H : PHeap) (Q : Value → PHeap → Prop)
    (h : Ob (a1 ≠ none) ∧
  Ob (a1 ≠ none) ∧
    ∃ b3,
      Reads H (fldA a1 0) [Value.bool b3] ∧
        Ob (a2 ≠ none) ∧
        ∃ a4 k5 k6,
        Reads H (fldA a2 2) [Value.slice a4 k5 k6] ∧
        LookV Proofs.Tryd.prog (convert 23 9 (Value.slice a4 k5 k6)) H fun v7 =>
        ∃ s8,
        v7 = Value.string s8 ∧
        Ob (a1 ≠ none) ∧
        Ob (a1 ≠ none) ∧ ∃ H9, Writes H H9 (fldA a1 0) [Value.bool true] ∧ Ob (a1 ≠ none) ∧ Ob (a1 ≠ none) ∧ ∃ H10, Writes H9 H10 (fldA a1 1) [Value.string s8] ∧ Q (Value.bool !b3) H10) :
    Triple Go.Proofs.Tryd.prog 60 ([Value.pointer a1, Value.pointer a2]).toArray H Q :=
  Triple.of_vc mDone1.cx (by kernel_rfl) h

theorem mDone2.vc (a1 : Option Addr) (a2 : Option Addr) (H : PHeap) (Q : Value → PHeap → Prop)
    (h : ∃ H3,
  Vx.Sub H3 H ∧
    Ob (a1 ≠ none) ∧
      Ob (a1 ≠ none) ∧
        ∃ b4,
        Reads H3 (fldA a1 0) [Value.bool b4] ∧
        (b4 = true →
        Ob (a1 ≠ none) ∧
        Ob (a1 ≠ none) ∧
        ∃ s5,
        Reads H3 (fldA a1 1) [Value.string s5] ∧
        Ob (a2 ≠ none) ∧
        ∃ a6 k7 k8,
        Reads H3 (fldA a2 2) [Value.slice a6 k7 k8] ∧
        LookV Proofs.Tryd.prog (convert 23 9 (Value.slice a6 k7 k8)) H3 fun v9 => ∃ s10, v9 = Value.string s10 ∧ Q (Value.bool (eqS s5 s10)) H) ∧
        (b4 = !true → Q (Value.bool false) H)) :
    Triple Go.Proofs.Tryd.prog 61 ([Value.pointer a1, Value.pointer a2]).toArray H Q :=
  Triple.of_vc mDone2.cx (by kernel_rfl) h

theorem mDone3.vc (a1 : Option Addr) (H : PHeap) (Q : Value → PHeap → Prop)
    (h : Ob (a1 ≠ none) ∧
  Ob (a1 ≠ none) ∧
    ∃ b2,
      Reads H (fldA a1 0) [Value.bool b2] ∧
        Ob (a1 ≠ none) ∧
        Ob (a1 ≠ none) ∧ ∃ H3, Writes H H3 (fldA a1 0) [Value.bool false] ∧ Ob (a1 ≠ none) ∧ Ob (a1 ≠ none) ∧ ∃ H4, Writes H3 H4 (fldA a1 1) [Value.string ({ data := #[] } : ByteArray)] ∧ Q (Value.bool b2) H4) :
    Triple Go.Proofs.Tryd.prog 62 ([Value.pointer a1]).toArray H Q :=
  Triple.of_vc mDone3.cx (by kernel_rfl) h

theorem mDone4.vc (a1 : Option Addr) (a2 : Option Addr) (H : PHeap) (Q : Value → PHeap → Prop)
    (h : ∃ H3,
  Vx.Sub H3 H ∧
    Ob (a1 ≠ none) ∧
      Ob (a1 ≠ none) ∧
        ∃ b4,
        Reads H3 (fldA a1 0) [Value.bool b4] ∧
        (b4 = true →
        Ob (a1 ≠ none) ∧
        Ob (a1 ≠ none) ∧ ∃ s5, Reads H3 (fldA a1 1) [Value.string s5] ∧ Ob (a2 ≠ none) ∧ ∃ n6, Reads H3 (fldA a2 1) [Value.int IntKind.i64 n6] ∧ Q (Value.bool ((↑s5.size : Int) == n6)) H) ∧
        (b4 = !true → Q (Value.bool false) H)) :
    Triple Go.Proofs.Tryd.prog 63 ([Value.pointer a1, Value.pointer a2]).toArray H Q :=
  Triple.of_vc mDone4.cx (by kernel_rfl) h

theorem mFits.vc (a1 : Option Addr) (n2 : Int) (s3 : ByteArray) (a4 : Option Addr) (k5 : Nat) (k6 : Nat) (n7 : Int) (n8 : Int) (a9 : Option Addr) (k10 : Nat) (k11 : Nat) (a12 : Option Addr) (k13 : Nat) (k14 : Nat) (H : PHeap) (Q : Value → PHeap → Prop)
    (h : ((n7 == 0) = true →
    Triple Proofs.Tryd.prog 38
      #[Value.pointer a1, Value.agg #[Value.int IntKind.i64 n2, Value.string s3, Value.slice a4 k5 k6],
        Value.agg #[Value.int IntKind.i64 n7, Value.int IntKind.i64 n8, Value.slice a9 k10 k11, Value.slice a12 k13 k14]]
      H fun v15 H16 => ∃ b17, v15 = Value.bool b17 ∧ Q (Value.bool b17) H16) ∧
  ((n7 == 0) = false →
    Triple Proofs.Tryd.prog 27 #[Value.agg #[Value.int IntKind.i64 n7, Value.int IntKind.i64 n8, Value.slice a9 k10 k11, Value.slice a12 k13 k14]] H fun v18 H19 =>
      ∃ b20,
        v18 = Value.bool b20 ∧
        ((!b20) = true → Q (Value.bool false) H19) ∧
        ((!b20) = false →
        ((n7 == 13) = true →
        Triple Proofs.Tryd.prog 16 #[Value.pointer a1, Value.agg #[Value.int IntKind.i64 n2, Value.string s3, Value.slice a4 k5 k6]] H19 fun v21 H22 =>
        v21 = Value.tuple #[] ∧ Q (Value.bool true) H22) ∧
        ((n7 == 13) = false →
        ((bif n7 == 11 then true else n7 == 12) = true → Q (Value.bool (bif n2 == 1 then true else n2 == 6)) H19) ∧
        ((bif n7 == 11 then true else n7 == 12) = false →
        ((n7 == 9) = true →
        ((n2 == 1) = true →
        Triple Proofs.Tryd.prog 39 #[Value.pointer a1, Value.string s3, Value.func (Fn.func 40) #[] #[]] H19 fun v23 H24 =>
        ∃ b25, v23 = Value.bool b25 ∧ Q (Value.bool b25) H24) ∧
        ((n2 == 1) = !true → Q (Value.bool false) H19)) ∧
        ((n7 == 9) = false →
        ((n7 == 10) = true →
        ((n2 != 1) = true →
        ((n2 != 4) = true →
        Triple Proofs.Tryd.prog 39 #[Value.pointer a1, Value.string s3, Value.func (Fn.func 41) #[] #[]] H19 fun v26 H27 =>
        ∃ b28, v26 = Value.bool b28 ∧ Q (Value.bool b28) H27) ∧
        ((n2 != 4) = !true → Q (Value.bool false) H19)) ∧
        ((n2 != 1) = !true → Q (Value.bool false) H19)) ∧
        ((n7 == 10) = false → Q (Value.bool false) H19))))))) :
    Triple Go.Proofs.Tryd.prog 26 ([Value.pointer a1, Value.agg #[Value.int IntKind.i64 n2, Value.string s3, Value.slice a4 k5 k6],
  Value.agg #[Value.int IntKind.i64 n7, Value.int IntKind.i64 n8, Value.slice a9 k10 k11, Value.slice a12 k13 k14]]).toArray H Q :=
  Triple.of_vc mFits.cx (by kernel_rfl) h

theorem mSame.vc (n1 : Int) (s2 : ByteArray) (a3 : Option Addr) (k4 : Nat) (k5 : Nat) (n6 : Int) (s7 : ByteArray) (a8 : Option Addr) (k9 : Nat) (k10 : Nat) (H : PHeap) (Q : Value → PHeap → Prop)
    (h : ((n1 == n6) = true →
    (eqS s2 s7 = true →
        LookV Proofs.Tryd.prog (convert 23 9 (Value.slice a3 k4 k5)) H fun v11 =>
        ∃ s12, v11 = Value.string s12 ∧ LookV Proofs.Tryd.prog (convert 23 9 (Value.slice a8 k9 k10)) H fun v13 => ∃ s14, v13 = Value.string s14 ∧ Q (Value.bool (eqS s12 s14)) H) ∧
      (eqS s2 s7 = !true → Q (Value.bool false) H)) ∧
  ((n1 == n6) = !true → Q (Value.bool false) H)) :
    Triple Go.Proofs.Tryd.prog 13 ([Value.agg #[Value.int IntKind.i64 n1, Value.string s2, Value.slice a3 k4 k5], Value.agg #[Value.int IntKind.i64 n6, Value.string s7, Value.slice a8 k9 k10]]).toArray H Q :=
  Triple.of_vc mSame.cx (by kernel_rfl) h

theorem mBusy.vc (a1 : Option Addr) (H : PHeap) (Q : Value → PHeap → Prop)
    (h : Ob (a1 ≠ none) ∧
  Ob (a1 ≠ none) ∧
    ∃ a2 k3 k4,
      Reads H (fldA a1 0) [Value.slice a2 k3 k4] ∧ Triple Proofs.Tryd.prog 23 #[Value.slice a2 k3 k4, Value.func (Fn.func 24) #[] #[]] H fun v5 H6 => ∃ b7, v5 = Value.bool b7 ∧ Q (Value.bool b7) H6) :
    Triple Go.Proofs.Tryd.prog 12 ([Value.pointer a1]).toArray H Q :=
  Triple.of_vc mBusy.cx (by kernel_rfl) h

theorem mBusy1.vc (n1 : Int) (s2 : ByteArray) (a3 : Option Addr) (k4 : Nat) (k5 : Nat) (b6 : Bool) (b7 : Bool) (H : PHeap) (Q : Value → PHeap → Prop)
    (h : Q (Value.bool (bif b6 then !b7 else false)) H) :
    Triple Go.Proofs.Tryd.prog 24 ([Value.agg #[Value.int IntKind.i64 n1, Value.string s2, Value.slice a3 k4 k5, Value.bool b6, Value.bool b7]]).toArray H Q :=
  Triple.of_vc mBusy1.cx (by kernel_rfl) h

theorem mTake.vc (a1 : Option Addr) (n2 : Int) (n3 : Int) (n4 : Int) (n5 : Int) (s6 : ByteArray) (a7 : Option Addr) (k8 : Nat) (k9 : Nat) (n10 : Int) (n11 : Int) (a12 : Option Addr) (k13 : Nat) (k14 : Nat) (a15 : Option Addr) (k16 : Nat) (k17 : Nat) (H : PHeap) (Q : Value → PHeap → Prop)
    (h : (a1.isNone = true → Q (Value.bool false) H) ∧
  (a1.isNone = false →
    ((n2 == 1) = true →
        ∃ H18,
        Vx.Sub H18 H ∧
        Ob (a1 ≠ none) ∧
        Ob (a1 ≠ none) ∧
        ∃ a19 k20 k21,
        Reads H18 (fldA a1 0) [Value.slice a19 k20 k21] ∧
        ((n3 != (↑k20 : Int)) = true → Q (Value.bool false) H) ∧
        ((n3 != (↑k20 : Int)) = false →
        Triple Proofs.Tryd.prog 11 #[Value.slice a7 k8 k9] H fun v22 H23 =>
        ∃ a24 k25 k26,
        v22 = Value.slice a24 k25 k26 ∧
        ∃ H27,
        Vx.Sub H27 H23 ∧
        Ob (a1 ≠ none) ∧
        Ob (a1 ≠ none) ∧
        ∃ a28 k29 k30,
        Reads H27 (fldA a1 0) [Value.slice a28 k29 k30] ∧
        ∀ (k31 : Nat),
        H23 k31 = none →
        Vx.Sub H27 (H23.upd k31 (Obj.cells #[Value.int IntKind.i64 n5, Value.string s6, Value.slice a24 k25 k26, Value.bool false, Value.bool false] 49)) ∧
        EvV Proofs.Tryd.prog (Builtin.append_ #[34, 34] 34 #[Value.slice a28 k29 k30, Value.slice (at0 k31) 1 1])
        (H23.upd k31 (Obj.cells #[Value.int IntKind.i64 n5, Value.string s6, Value.slice a24 k25 k26, Value.bool false, Value.bool false] 49)) fun v32 H33 =>
        ∃ a34 k35 k36,
        v32 = Value.slice a34 k35 k36 ∧
        Ob (a1 ≠ none) ∧ Ob (a1 ≠ none) ∧ ∃ H37, Writes H33 H37 (fldA a1 0) [Value.slice a34 k35 k36] ∧ Q (Value.bool true) H37)) ∧
      ((n2 == 1) = false →
        ∃ H38,
        Vx.Sub H38 H ∧
        (decide (n3 < 0) = false →
        Ob (a1 ≠ none) ∧
        Ob (a1 ≠ none) ∧
        ∃ a39 k40 k41,
        Reads H38 (fldA a1 0) [Value.slice a39 k40 k41] ∧
        (decide (n3 ≥ (↑k40 : Int)) = false →
        Ob (a1 ≠ none) ∧
        Ob (a1 ≠ none) ∧
        ∃ a42 k43 k44,
        Reads H38 (fldA a1 0) [Value.slice a42 k43 k44] ∧
        Ob (a42 ≠ none ∧ 0 ≤ n3 ∧ n3 < (↑k43 : Int)) ∧
        Ob (elemA a42 n3 5 ≠ none) ∧
        ∃ b45,
        Reads H38 (fldA (elemA a42 n3 5) 4) [Value.bool b45] ∧
        (b45 = true → Q (Value.bool false) H) ∧
        (b45 = false →
        ∃ H46,
        Vx.Sub H46 H ∧
        Ob (a1 ≠ none) ∧
        Ob (a1 ≠ none) ∧
        ∃ a47 k48 k49,
        Reads H46 (fldA a1 0) [Value.slice a47 k48 k49] ∧
        Ob (a47 ≠ none ∧ 0 ≤ n3 ∧ n3 < (↑k48 : Int)) ∧
        ((n2 == 2) = true →
        ∃ H50,
        Vx.Sub H50 H ∧
        Ob (elemA a47 n3 5 ≠ none) ∧
        Ob (elemA a47 n3 5 ≠ none) ∧
        ∃ b51,
        Reads H50 (fldA (elemA a47 n3 5) 3) [Value.bool b51] ∧
        (b51 = false →
        Triple Proofs.Tryd.prog 12 #[Value.pointer a1] H fun v52 H53 =>
        ∃ b54,
        v52 = Value.bool b54 ∧
        Vx.Sub H50 H53 ∧
        (b54 = false →
        Ob (elemA a47 n3 5 ≠ none) ∧
        Ob (elemA a47 n3 5 ≠ none) ∧
        ∃ n55 s56 a57 k58 k59,
        Reads H50 (fldA (elemA a47 n3 5) 0)
        [Value.int IntKind.i64 n55, Value.string s56, Value.slice a57 k58 k59] ∧
        Triple Proofs.Tryd.prog 13
        #[Value.agg #[Value.int IntKind.i64 n55, Value.string s56, Value.slice a57 k58 k59],
        Value.agg #[Value.int IntKind.i64 n5, Value.string s6, Value.slice a7 k8 k9]]
        H53 fun v60 H61 =>
        ∃ b62,
        v60 = Value.bool b62 ∧
        Vx.Sub H50 H61 ∧
        ((!b62) = false →
        Triple Proofs.Tryd.prog 14
        #[Value.agg #[Value.int IntKind.i64 n5, Value.string s6, Value.slice a7 k8 k9]] H61
        fun v63 H64 =>
        ∃ n65,
        v63 = Value.int IntKind.i64 n65 ∧
        ((n65 != 0) = true → Q (Value.bool false) H64) ∧
        ((n65 != 0) = false →
        Ob (elemA a47 n3 5 ≠ none) ∧
        Ob (elemA a47 n3 5 ≠ none) ∧
        ∃ H66,
        Writes H64 H66 (fldA (elemA a47 n3 5) 3) [Value.bool true] ∧
        Q (Value.bool true) H66)) ∧
        ((!b62) = !false → Q (Value.bool false) H61)) ∧
        (b54 = !false → Q (Value.bool false) H53)) ∧
        (b51 = !false → Q (Value.bool false) H)) ∧
        ((n2 == 2) = false →
        ((n2 == 3) = true →
        ∃ H67,
        Vx.Sub H67 H ∧
        Ob (elemA a47 n3 5 ≠ none) ∧
        ∃ n68 s69 a70 k71 k72 b73 b74,
        Reads H67 (elemA a47 n3 5)
        [Value.int IntKind.i64 n68, Value.string s69, Value.slice a70 k71 k72, Value.bool b73, Value.bool b74] ∧
        Triple Proofs.Tryd.prog 15
        #[Value.pointer a1,
        Value.agg #[Value.int IntKind.i64 n68, Value.string s69, Value.slice a70 k71 k72, Value.bool b73, Value.bool b74],
        Value.agg #[Value.int IntKind.i64 n10, Value.int IntKind.i64 n11, Value.slice a12 k13 k14, Value.slice a15 k16 k17]]
        H fun v75 H76 =>
        ∃ b77,
        v75 = Value.bool b77 ∧
        Ob (elemA a47 n3 5 ≠ none) ∧
        Ob (elemA a47 n3 5 ≠ none) ∧
        ∃ H78,
        Writes H76 H78 (fldA (elemA a47 n3 5) 4) [Value.bool b77] ∧
        Ob (elemA a47 n3 5 ≠ none) ∧
        Ob (elemA a47 n3 5 ≠ none) ∧
        ∃ b79, Reads H78 (fldA (elemA a47 n3 5) 4) [Value.bool b79] ∧ Q (Value.bool b79) H78) ∧
        ((n2 == 3) = false →
        ((n2 == 4) = true →
        Ob (elemA a47 n3 5 ≠ none) ∧
        Ob (elemA a47 n3 5 ≠ none) ∧
        ∃ b80,
        Reads H (fldA (elemA a47 n3 5) 3) [Value.bool b80] ∧
        (b80 = true →
        Ob (elemA a47 n3 5 ≠ none) ∧
        Ob (elemA a47 n3 5 ≠ none) ∧
        ∃ n81 s82 a83 k84 k85,
        Reads H (fldA (elemA a47 n3 5) 0) [Value.int IntKind.i64 n81, Value.string s82, Value.slice a83 k84 k85] ∧
        Triple Proofs.Tryd.prog 16
        #[Value.pointer a1, Value.agg #[Value.int IntKind.i64 n81, Value.string s82, Value.slice a83 k84 k85]] H
        fun v86 H87 =>
        v86 = Value.tuple #[] ∧
        Ob (elemA a47 n3 5 ≠ none) ∧
        Ob (elemA a47 n3 5 ≠ none) ∧
        ∃ H88, Writes H87 H88 (fldA (elemA a47 n3 5) 4) [Value.bool true] ∧ Q (Value.bool true) H88) ∧
        (b80 = false →
        Ob (elemA a47 n3 5 ≠ none) ∧
        Ob (elemA a47 n3 5 ≠ none) ∧
        ∃ H89, Writes H H89 (fldA (elemA a47 n3 5) 4) [Value.bool true] ∧ Q (Value.bool true) H89)) ∧
        ((n2 == 4) = false → Q (Value.bool false) H))))) ∧
        (decide (n3 ≥ (↑k40 : Int)) = !false → Q (Value.bool false) H)) ∧
        (decide (n3 < 0) = !false → Q (Value.bool false) H)))) :
    Triple Go.Proofs.Tryd.prog 6 ([Value.pointer a1,
  Value.agg
    #[Value.int IntKind.i64 n2, Value.int IntKind.i64 n3, Value.int IntKind.i64 n4, Value.int IntKind.i64 n5, Value.string s6, Value.slice a7 k8 k9, Value.int IntKind.i64 n10,
      Value.int IntKind.i64 n11, Value.slice a12 k13 k14, Value.slice a15 k16 k17]]).toArray H Q :=
  Triple.of_vc mTake.cx (by kernel_rfl) h

theorem mAnswered.vc (a1 : Option Addr) (n2 : Int) (s3 : ByteArray) (a4 : Option Addr) (k5 : Nat) (k6 : Nat) (b7 : Bool) (b8 : Bool) (n9 : Int) (n10 : Int) (a11 : Option Addr) (k12 : Nat) (k13 : Nat) (a14 : Option Addr) (k15 : Nat) (k16 : Nat) (H : PHeap) (Q : Value → PHeap → Prop)
    (h : (b7 = true →
    Triple Proofs.Tryd.prog 26
      #[Value.pointer a1, Value.agg #[Value.int IntKind.i64 n2, Value.string s3, Value.slice a4 k5 k6],
        Value.agg #[Value.int IntKind.i64 n9, Value.int IntKind.i64 n10, Value.slice a11 k12 k13, Value.slice a14 k15 k16]]
      H fun v17 H18 => ∃ b19, v17 = Value.bool b19 ∧ Q (Value.bool b19) H18) ∧
  (b7 = false →
    ∃ H20,
      Vx.Sub H20 H ∧
        ((n9 != 0) = true →
        Triple Proofs.Tryd.prog 14 #[Value.agg #[Value.int IntKind.i64 n2, Value.string s3, Value.slice a4 k5 k6]] H fun v21 H22 =>
        ∃ n23,
        v21 = Value.int IntKind.i64 n23 ∧
        Vx.Sub H20 H22 ∧
        ((n9 == n23) = true →
        Triple Proofs.Tryd.prog 27 #[Value.agg #[Value.int IntKind.i64 n9, Value.int IntKind.i64 n10, Value.slice a11 k12 k13, Value.slice a14 k15 k16]] H22 fun v24 H25 =>
        ∃ b26, v24 = Value.bool b26 ∧ Q (Value.bool b26) H25) ∧
        ((n9 == n23) = !true → Q (Value.bool false) H22)) ∧
        ((n9 != 0) = !true → Q (Value.bool false) H))) :
    Triple Go.Proofs.Tryd.prog 15 ([Value.pointer a1, Value.agg #[Value.int IntKind.i64 n2, Value.string s3, Value.slice a4 k5 k6, Value.bool b7, Value.bool b8],
  Value.agg #[Value.int IntKind.i64 n9, Value.int IntKind.i64 n10, Value.slice a11 k12 k13, Value.slice a14 k15 k16]]).toArray H Q :=
  Triple.of_vc mAnswered.cx (by kernel_rfl) h

theorem mCan.vc (a1 : Option Addr) (s2 : ByteArray) (H : PHeap) (Q : Value → PHeap → Prop)
    (h : (a1.isNone = true → Q (Value.slice none 0 0) H) ∧
  (a1.isNone = false →
    EvV Proofs.Tryd.prog (Instr.makeMap 56 none) H fun v3 H4 =>
      ∃ a5,
        v3 = Value.map a5 ∧
        Triple Proofs.Tryd.prog 19 #[Value.pointer a1, Value.string s2] H4 fun v6 H7 =>
        ∃ a8 k9 k10,
        v6 = Value.slice a8 k9 k10 ∧
        Triple Proofs.Tryd.prog 18 #[Value.slice a8 k9 k10] H7 fun v11 H12 =>
        ∃ a13 k14 k15,
        v11 = Value.slice a13 k14 k15 ∧
        ∃ (R16 : Rl) (M17 : Mu),
        R16 [Value.slice none 0 0, Value.bool false, Value.int IntKind.i64 0] H12 ∧
        ∀ (a18 : Option Addr) (k19 k20 : Nat) (b21 : Bool) (n22 : Int) (H23 : PHeap),
        R16 [Value.slice a18 k19 k20, Value.bool b21, Value.int IntKind.i64 n22] H23 →
        (decide (n22 < (↑k14 : Int)) = true →
        Ob (a13 ≠ none ∧ 0 ≤ n22 ∧ n22 < (↑k14 : Int)) ∧
        ∃ b24 s25 a26 k27 k28,
        Reads H23 (elemA a13 n22 3) [Value.bool b24, Value.string s25, Value.slice a26 k27 k28] ∧
        ((!b24) = true →
        R16 [Value.slice a18 k19 k20, Value.bool true, Value.int IntKind.i64 (IntKind.i64.wrap (n22 + 1))] H23 ∧
        Less (M17 [Value.slice a18 k19 k20, Value.bool true, Value.int IntKind.i64 (IntKind.i64.wrap (n22 + 1))] H23)
        (M17 [Value.slice a18 k19 k20, Value.bool b21, Value.int IntKind.i64 n22] H23)) ∧
        ((!b24) = false →
        LookV Proofs.Tryd.prog (Instr.lookup 56 (Value.map a5) (Value.string s25) false) H23 fun v29 =>
        ∃ n30,
        v29 = Value.int IntKind.i64 n30 ∧
        EvU Proofs.Tryd.prog (Instr.mapUpdate 56 (Value.map a5) (Value.string s25) (Value.int IntKind.i64 (IntKind.i64.wrap (n30 + 1)))) H23 fun H31 =>
        LookV Proofs.Tryd.prog (Instr.lookup 56 (Value.map a5) (Value.string s25) false) H31 fun v32 =>
        ∃ n33,
        v32 = Value.int IntKind.i64 n33 ∧
        ((n33 == 1) = true →
        ∀ (k34 : Nat),
        H31 k34 = none →
        EvV Proofs.Tryd.prog (Builtin.append_ #[27, 27] 27 #[Value.slice a18 k19 k20, Value.slice (at0 k34) 1 1])
        (H31.upd k34 (Obj.cells #[Value.string s25] 9)) fun v35 H36 =>
        ∃ a37 k38 k39,
        v35 = Value.slice a37 k38 k39 ∧
        R16 [Value.slice a37 k38 k39, Value.bool b21, Value.int IntKind.i64 (IntKind.i64.wrap (n22 + 1))] H36 ∧
        Less (M17 [Value.slice a37 k38 k39, Value.bool b21, Value.int IntKind.i64 (IntKind.i64.wrap (n22 + 1))] H36)
        (M17 [Value.slice a18 k19 k20, Value.bool b21, Value.int IntKind.i64 n22] H23)) ∧
        ((n33 == 1) = false →
        R16 [Value.slice a18 k19 k20, Value.bool b21, Value.int IntKind.i64 (IntKind.i64.wrap (n22 + 1))] H31 ∧
        Less (M17 [Value.slice a18 k19 k20, Value.bool b21, Value.int IntKind.i64 (IntKind.i64.wrap (n22 + 1))] H31)
        (M17 [Value.slice a18 k19 k20, Value.bool b21, Value.int IntKind.i64 n22] H23)))) ∧
        (decide (n22 < (↑k14 : Int)) = false →
        Triple Proofs.Tryd.prog 20 #[Value.slice a18 k19 k20] H23 fun v40 H41 =>
        v40 = Value.tuple #[] ∧
        (b21 = true →
        ∀ (k42 : Nat),
        H41 k42 = none →
        EvV Proofs.Tryd.prog (Builtin.append_ #[40, 40] 40 #[Value.slice none 0 0, Value.slice (at0 k42) 1 1])
        (H41.upd k42 (Obj.cells #[Value.bool false, Value.slice none 0 0] 43)) fun v43 H44 =>
        ∃ a45 k46 k47,
        v43 = Value.slice a45 k46 k47 ∧
        ∃ (R48 : Rl) (M49 : Mu),
        R48 [Value.slice a45 k46 k47, Value.int IntKind.i64 0] H44 ∧
        ∀ (a50 : Option Addr) (k51 k52 : Nat) (n53 : Int) (H54 : PHeap),
        R48 [Value.slice a50 k51 k52, Value.int IntKind.i64 n53] H54 →
        (decide (n53 < (↑k19 : Int)) = true →
        Ob (a18 ≠ none ∧ 0 ≤ n53 ∧ n53 < (↑k19 : Int)) ∧
        ∃ s55,
        Reads H54 (elemA a18 n53 1) [Value.string s55] ∧
        EvV Proofs.Tryd.prog (convert 9 23 (Value.string s55)) H54 fun v56 H57 =>
        ∃ a58 k59 k60,
        v56 = Value.slice a58 k59 k60 ∧
        ∀ (k61 : Nat),
        H57 k61 = none →
        EvV Proofs.Tryd.prog
        (Builtin.append_ #[40, 40] 40 #[Value.slice a50 k51 k52, Value.slice (at0 k61) 1 1])
        (H57.upd k61 (Obj.cells #[Value.bool true, Value.slice a58 k59 k60] 43)) fun v62 H63 =>
        ∃ a64 k65 k66,
        v62 = Value.slice a64 k65 k66 ∧
        R48 [Value.slice a64 k65 k66, Value.int IntKind.i64 (IntKind.i64.wrap (n53 + 1))] H63 ∧
        Less (M49 [Value.slice a64 k65 k66, Value.int IntKind.i64 (IntKind.i64.wrap (n53 + 1))] H63)
        (M49 [Value.slice a50 k51 k52, Value.int IntKind.i64 n53] H54)) ∧
        (decide (n53 < (↑k19 : Int)) = false → Q (Value.slice a50 k51 k52) H54)) ∧
        (b21 = false →
        ∃ (R67 : Rl) (M68 : Mu),
        R67 [Value.slice none 0 0, Value.int IntKind.i64 0] H41 ∧
        ∀ (a69 : Option Addr) (k70 k71 : Nat) (n72 : Int) (H73 : PHeap),
        R67 [Value.slice a69 k70 k71, Value.int IntKind.i64 n72] H73 →
        (decide (n72 < (↑k19 : Int)) = true →
        Ob (a18 ≠ none ∧ 0 ≤ n72 ∧ n72 < (↑k19 : Int)) ∧
        ∃ s74,
        Reads H73 (elemA a18 n72 1) [Value.string s74] ∧
        EvV Proofs.Tryd.prog (convert 9 23 (Value.string s74)) H73 fun v75 H76 =>
        ∃ a77 k78 k79,
        v75 = Value.slice a77 k78 k79 ∧
        ∀ (k80 : Nat),
        H76 k80 = none →
        EvV Proofs.Tryd.prog (Builtin.append_ #[40, 40] 40 #[Value.slice a69 k70 k71, Value.slice (at0 k80) 1 1])
        (H76.upd k80 (Obj.cells #[Value.bool true, Value.slice a77 k78 k79] 43)) fun v81 H82 =>
        ∃ a83 k84 k85,
        v81 = Value.slice a83 k84 k85 ∧
        R67 [Value.slice a83 k84 k85, Value.int IntKind.i64 (IntKind.i64.wrap (n72 + 1))] H82 ∧
        Less (M68 [Value.slice a83 k84 k85, Value.int IntKind.i64 (IntKind.i64.wrap (n72 + 1))] H82)
        (M68 [Value.slice a69 k70 k71, Value.int IntKind.i64 n72] H73)) ∧
        (decide (n72 < (↑k19 : Int)) = false → Q (Value.slice a69 k70 k71) H73))))) :
    Triple Go.Proofs.Tryd.prog 8 ([Value.pointer a1, Value.string s2]).toArray H Q :=
  Triple.of_vc mCan.cx (by kernel_rfl) h

theorem mRight.vc (a1 : Option Addr) (k2 : Nat) (k3 : Nat) (H : PHeap) (Q : Value → PHeap → Prop)
    (h : ∀ (k4 : Nat),
  H k4 = none →
    Triple Proofs.Tryd.prog 21 #[Value.slice a1 k2 k3, Value.func (Fn.func 22) #[] #[Value.pointer (at0 k4)]] (H.upd k4 (Obj.cells #[Value.slice none 0 0, Value.map none] 37))
      fun v5 H6 => ∃ b7, v5 = Value.bool b7 ∧ Q (Value.bool !b7) H6) :
    Triple Go.Proofs.Tryd.prog 10 ([Value.slice a1 k2 k3]).toArray H Q :=
  Triple.of_vc mRight.cx (by kernel_rfl) h

theorem mRight1.vc (n1 : Int) (n2 : Int) (n3 : Int) (n4 : Int) (s5 : ByteArray) (a6 : Option Addr) (k7 : Nat) (k8 : Nat) (n9 : Int) (n10 : Int) (a11 : Option Addr) (k12 : Nat) (k13 : Nat) (a14 : Option Addr) (k15 : Nat) (k16 : Nat) (a17 : Option Addr) (H : PHeap) (Q : Value → PHeap → Prop)
    (h : Triple Proofs.Tryd.prog 6
  #[Value.pointer a17,
    Value.agg
      #[Value.int IntKind.i64 n1, Value.int IntKind.i64 n2, Value.int IntKind.i64 n3, Value.int IntKind.i64 n4, Value.string s5, Value.slice a6 k7 k8, Value.int IntKind.i64 n9,
        Value.int IntKind.i64 n10, Value.slice a11 k12 k13, Value.slice a14 k15 k16]]
  H fun v18 H19 => ∃ b20, v18 = Value.bool b20 ∧ Q (Value.bool !b20) H19) :
    Triple Go.Proofs.Tryd.prog 22 ([Value.agg
    #[Value.int IntKind.i64 n1, Value.int IntKind.i64 n2, Value.int IntKind.i64 n3, Value.int IntKind.i64 n4, Value.string s5, Value.slice a6 k7 k8, Value.int IntKind.i64 n9,
      Value.int IntKind.i64 n10, Value.slice a11 k12 k13, Value.slice a14 k15 k16],
  Value.pointer a17]).toArray H Q :=
  Triple.of_vc mRight1.cx (by kernel_rfl) h

theorem qCheck.vc (n1 : Int) (s2 : ByteArray) (a3 : Option Addr) (k4 : Nat) (k5 : Nat) (H : PHeap) (Q : Value → PHeap → Prop)
    (h : ((bif decide (n1 < 1) then true else decide (n1 > 6)) = true → Q (Value.int IntKind.i64 1) H) ∧
  ((bif decide (n1 < 1) then true else decide (n1 > 6)) = false →
    ((bif n1 == 4 then !eqS s2 ({ data := #[] } : ByteArray) else false) = true → Q (Value.int IntKind.i64 1) H) ∧
      ((bif n1 == 4 then !eqS s2 ({ data := #[] } : ByteArray) else false) = false →
        ((bif n1 != 1 then decide ((↑k4 : Int) > 0) else false) = true → Q (Value.int IntKind.i64 1) H) ∧
        ((bif n1 != 1 then decide ((↑k4 : Int) > 0) else false) = false →
        ((n1 != 4) = true →
        Triple Proofs.Tryd.prog 25 #[Value.string s2] H fun v6 H7 =>
        ∃ b8,
        v6 = Value.bool b8 ∧
        ((!b8) = true → Q (Value.int IntKind.i64 8) H7) ∧
        ((!b8) = false → (decide ((↑k4 : Int) > 240) = true → Q (Value.int IntKind.i64 7) H7) ∧ (decide ((↑k4 : Int) > 240) = false → Q (Value.int IntKind.i64 0) H7))) ∧
        ((n1 != 4) = !true → (decide ((↑k4 : Int) > 240) = true → Q (Value.int IntKind.i64 7) H) ∧ (decide ((↑k4 : Int) > 240) = false → Q (Value.int IntKind.i64 0) H)))))) :
    Triple Go.Proofs.Tryd.prog 14 ([Value.agg #[Value.int IntKind.i64 n1, Value.string s2, Value.slice a3 k4 k5]]).toArray H Q :=
  Triple.of_vc qCheck.cx (by kernel_rfl) h

end Go.Vc
