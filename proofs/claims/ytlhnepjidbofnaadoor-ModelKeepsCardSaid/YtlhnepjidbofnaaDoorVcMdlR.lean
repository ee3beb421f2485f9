/- What is to be shown of each function, in its normal form. Printed by a program of this session's, checked by the kernel. -/
import Derived.Test.YtlhnepjidbofnaaDoorE2
import Derived.Test.YtlhnepjidbofnaaDoorProg
set_option linter.unusedVariables false
set_option maxRecDepth 100000
namespace Go.Vc
open Go.Vx Go
def rNames.cx : Cx := ⟨[], [(3, [3, 4], [])], [], []⟩
def refAdd.cx : Cx := ⟨[], [(2, [5], [])], [], []⟩
def refLessS.cx : Cx := ⟨[], [(2, [5], [])], [], []⟩
def right.cx : Cx := ⟨[], [(4, [18], [])], [], []⟩
def sign.cx : Cx := ⟨[], [], [], []⟩
def farS.cx : Cx := ⟨[], [(2, [3], [])], [], []⟩

theorem rNames.vc (a1 : Option Addr) (k2 : Nat) (k3 : Nat) (H : PHeap) (Q : Value → PHeap → Prop)
    (h : ∃ (R4 : Rl) (M5 : Mu),
  R4 [Value.slice none 0 0, Value.int IntKind.i64 0] H ∧
    ∀ (a6 : Option Addr) (k7 k8 : Nat) (n9 : Int) (H10 : PHeap),
      R4 [Value.slice a6 k7 k8, Value.int IntKind.i64 n9] H10 →
        (decide (n9 < (↑k2 : Int)) = true →
        Ob (a1 ≠ none ∧ 0 ≤ n9 ∧ n9 < (↑k2 : Int)) ∧
        Ob (elemA a1 n9 10 ≠ none) ∧
        ∃ n11,
        Reads H10 (fldA (elemA a1 n9 10) 0) [Value.int IntKind.i64 n11] ∧
        ((n11 == 1) = true →
        Ob (a1 ≠ none ∧ 0 ≤ n9 ∧ n9 < (↑k2 : Int)) ∧
        Ob (elemA a1 n9 10 ≠ none) ∧
        Ob (fldA (elemA a1 n9 10) 3 ≠ none) ∧
        ∃ n12,
        Reads H10 (fldA (fldA (elemA a1 n9 10) 3) 0) [Value.int IntKind.i64 n12] ∧
        ((n12 != 4) = true →
        Ob (a1 ≠ none ∧ 0 ≤ n9 ∧ n9 < (↑k2 : Int)) ∧
        Ob (elemA a1 n9 10 ≠ none) ∧
        Ob (fldA (elemA a1 n9 10) 3 ≠ none) ∧
        ∃ s13,
        Reads H10 (fldA (fldA (elemA a1 n9 10) 3) 1) [Value.string s13] ∧
        Triple Proofs.Tryd.prog 17 #[Value.slice a6 k7 k8, Value.string s13] H10 fun v14 H15 =>
        ∃ a16 k17 k18,
        v14 = Value.slice a16 k17 k18 ∧
        R4 [Value.slice a16 k17 k18, Value.int IntKind.i64 (IntKind.i64.wrap (n9 + 1))] H15 ∧
        Less (M5 [Value.slice a16 k17 k18, Value.int IntKind.i64 (IntKind.i64.wrap (n9 + 1))] H15)
        (M5 [Value.slice a6 k7 k8, Value.int IntKind.i64 n9] H10)) ∧
        ((n12 != 4) = false →
        R4 [Value.slice a6 k7 k8, Value.int IntKind.i64 (IntKind.i64.wrap (n9 + 1))] H10 ∧
        Less (M5 [Value.slice a6 k7 k8, Value.int IntKind.i64 (IntKind.i64.wrap (n9 + 1))] H10) (M5 [Value.slice a6 k7 k8, Value.int IntKind.i64 n9] H10))) ∧
        ((n11 == 1) = !true →
        R4 [Value.slice a6 k7 k8, Value.int IntKind.i64 (IntKind.i64.wrap (n9 + 1))] H10 ∧
        Less (M5 [Value.slice a6 k7 k8, Value.int IntKind.i64 (IntKind.i64.wrap (n9 + 1))] H10) (M5 [Value.slice a6 k7 k8, Value.int IntKind.i64 n9] H10))) ∧
        (decide (n9 < (↑k2 : Int)) = false → Q (Value.slice a6 k7 k8) H10)) :
    Triple Go.Proofs.Tryd.prog 7 ([Value.slice a1 k2 k3]).toArray H Q :=
  Triple.of_vc rNames.cx (by kernel_rfl) h

theorem refAdd.vc (a1 : Option Addr) (k2 : Nat) (k3 : Nat) (s4 : ByteArray) (H : PHeap) (Q : Value → PHeap → Prop)
    (h : ∃ (R5 : Rl) (M6 : Mu),
  R5 [Value.int IntKind.i64 0] H ∧
    ∀ (n7 : Int) (H8 : PHeap),
      R5 [Value.int IntKind.i64 n7] H8 →
        (decide (n7 < (↑k2 : Int)) = true →
        Ob (a1 ≠ none ∧ 0 ≤ n7 ∧ n7 < (↑k2 : Int)) ∧
        ∃ s9,
        Reads H8 (elemA a1 n7 1) [Value.string s9] ∧
        Triple Proofs.Tryd.prog 30 #[Value.string s9, Value.string s4] H8 fun v10 H11 =>
        ∃ b12,
        v10 = Value.bool b12 ∧
        (b12 = true →
        R5 [Value.int IntKind.i64 (IntKind.i64.wrap (n7 + 1))] H11 ∧ Less (M6 [Value.int IntKind.i64 (IntKind.i64.wrap (n7 + 1))] H11) (M6 [Value.int IntKind.i64 n7] H8)) ∧
        (b12 = false →
        (decide (n7 < (↑k2 : Int)) = true →
        Ob (a1 ≠ none ∧ 0 ≤ n7 ∧ n7 < (↑k2 : Int)) ∧
        ∃ s13,
        Reads H11 (elemA a1 n7 1) [Value.string s13] ∧
        (eqS s13 s4 = true → Q (Value.slice a1 k2 k3) H11) ∧
        (eqS s13 s4 = false →
        ∀ (k14 : Nat),
        H11 k14 = none →
        Ob ((0 : Int) ≤ 0 ∧ 0 ≤ n7 ∧ n7 ≤ (↑k3 : Int)) ∧
        EvV Proofs.Tryd.prog
        (Builtin.append_ #[27, 27] 27
        #[Value.slice (at0 k14) 0 0, Value.slice (slA a1 0 k3 1) (n7.toNat - Int.toNat 0) (k3 - Int.toNat 0)])
        (H11.upd k14 (Obj.cells #[] 9)) fun v15 H16 =>
        ∃ a17 k18 k19,
        v15 = Value.slice a17 k18 k19 ∧
        ∀ (k20 : Nat),
        H16 k20 = none →
        EvV Proofs.Tryd.prog (Builtin.append_ #[27, 27] 27 #[Value.slice a17 k18 k19, Value.slice (at0 k20) 1 1])
        (H16.upd k20 (Obj.cells #[Value.string s4] 9)) fun v21 H22 =>
        ∃ a23 k24 k25,
        v21 = Value.slice a23 k24 k25 ∧
        Ob (0 ≤ n7 ∧ n7 ≤ (↑k2 : Int) ∧ (↑k2 : Int) ≤ (↑k3 : Int)) ∧
        EvV Proofs.Tryd.prog
        (Builtin.append_ #[27, 27] 27
        #[Value.slice a23 k24 k25, Value.slice (slA a1 n7 k3 1) ((↑k2 : Int).toNat - n7.toNat) (k3 - n7.toNat)])
        H22 fun v26 H27 => ∃ a28 k29 k30, v26 = Value.slice a28 k29 k30 ∧ Q (Value.slice a28 k29 k30) H27)) ∧
        (decide (n7 < (↑k2 : Int)) = !true →
        ∀ (k31 : Nat),
        H11 k31 = none →
        Ob ((0 : Int) ≤ 0 ∧ 0 ≤ n7 ∧ n7 ≤ (↑k3 : Int)) ∧
        EvV Proofs.Tryd.prog
        (Builtin.append_ #[27, 27] 27 #[Value.slice (at0 k31) 0 0, Value.slice (slA a1 0 k3 1) (n7.toNat - Int.toNat 0) (k3 - Int.toNat 0)])
        (H11.upd k31 (Obj.cells #[] 9)) fun v32 H33 =>
        ∃ a34 k35 k36,
        v32 = Value.slice a34 k35 k36 ∧
        ∀ (k37 : Nat),
        H33 k37 = none →
        EvV Proofs.Tryd.prog (Builtin.append_ #[27, 27] 27 #[Value.slice a34 k35 k36, Value.slice (at0 k37) 1 1])
        (H33.upd k37 (Obj.cells #[Value.string s4] 9)) fun v38 H39 =>
        ∃ a40 k41 k42,
        v38 = Value.slice a40 k41 k42 ∧
        Ob (0 ≤ n7 ∧ n7 ≤ (↑k2 : Int) ∧ (↑k2 : Int) ≤ (↑k3 : Int)) ∧
        EvV Proofs.Tryd.prog
        (Builtin.append_ #[27, 27] 27 #[Value.slice a40 k41 k42, Value.slice (slA a1 n7 k3 1) ((↑k2 : Int).toNat - n7.toNat) (k3 - n7.toNat)]) H39
        fun v43 H44 => ∃ a45 k46 k47, v43 = Value.slice a45 k46 k47 ∧ Q (Value.slice a45 k46 k47) H44))) ∧
        (decide (n7 < (↑k2 : Int)) = !true →
        (decide (n7 < (↑k2 : Int)) = true →
        Ob (a1 ≠ none ∧ 0 ≤ n7 ∧ n7 < (↑k2 : Int)) ∧
        ∃ s48,
        Reads H8 (elemA a1 n7 1) [Value.string s48] ∧
        (eqS s48 s4 = true → Q (Value.slice a1 k2 k3) H8) ∧
        (eqS s48 s4 = false →
        ∀ (k49 : Nat),
        H8 k49 = none →
        Ob ((0 : Int) ≤ 0 ∧ 0 ≤ n7 ∧ n7 ≤ (↑k3 : Int)) ∧
        EvV Proofs.Tryd.prog
        (Builtin.append_ #[27, 27] 27 #[Value.slice (at0 k49) 0 0, Value.slice (slA a1 0 k3 1) (n7.toNat - Int.toNat 0) (k3 - Int.toNat 0)])
        (H8.upd k49 (Obj.cells #[] 9)) fun v50 H51 =>
        ∃ a52 k53 k54,
        v50 = Value.slice a52 k53 k54 ∧
        ∀ (k55 : Nat),
        H51 k55 = none →
        EvV Proofs.Tryd.prog (Builtin.append_ #[27, 27] 27 #[Value.slice a52 k53 k54, Value.slice (at0 k55) 1 1])
        (H51.upd k55 (Obj.cells #[Value.string s4] 9)) fun v56 H57 =>
        ∃ a58 k59 k60,
        v56 = Value.slice a58 k59 k60 ∧
        Ob (0 ≤ n7 ∧ n7 ≤ (↑k2 : Int) ∧ (↑k2 : Int) ≤ (↑k3 : Int)) ∧
        EvV Proofs.Tryd.prog
        (Builtin.append_ #[27, 27] 27 #[Value.slice a58 k59 k60, Value.slice (slA a1 n7 k3 1) ((↑k2 : Int).toNat - n7.toNat) (k3 - n7.toNat)]) H57
        fun v61 H62 => ∃ a63 k64 k65, v61 = Value.slice a63 k64 k65 ∧ Q (Value.slice a63 k64 k65) H62)) ∧
        (decide (n7 < (↑k2 : Int)) = !true →
        ∀ (k66 : Nat),
        H8 k66 = none →
        Ob ((0 : Int) ≤ 0 ∧ 0 ≤ n7 ∧ n7 ≤ (↑k3 : Int)) ∧
        EvV Proofs.Tryd.prog (Builtin.append_ #[27, 27] 27 #[Value.slice (at0 k66) 0 0, Value.slice (slA a1 0 k3 1) (n7.toNat - Int.toNat 0) (k3 - Int.toNat 0)])
        (H8.upd k66 (Obj.cells #[] 9)) fun v67 H68 =>
        ∃ a69 k70 k71,
        v67 = Value.slice a69 k70 k71 ∧
        ∀ (k72 : Nat),
        H68 k72 = none →
        EvV Proofs.Tryd.prog (Builtin.append_ #[27, 27] 27 #[Value.slice a69 k70 k71, Value.slice (at0 k72) 1 1])
        (H68.upd k72 (Obj.cells #[Value.string s4] 9)) fun v73 H74 =>
        ∃ a75 k76 k77,
        v73 = Value.slice a75 k76 k77 ∧
        Ob (0 ≤ n7 ∧ n7 ≤ (↑k2 : Int) ∧ (↑k2 : Int) ≤ (↑k3 : Int)) ∧
        EvV Proofs.Tryd.prog (Builtin.append_ #[27, 27] 27 #[Value.slice a75 k76 k77, Value.slice (slA a1 n7 k3 1) ((↑k2 : Int).toNat - n7.toNat) (k3 - n7.toNat)]) H74
        fun v78 H79 => ∃ a80 k81 k82, v78 = Value.slice a80 k81 k82 ∧ Q (Value.slice a80 k81 k82) H79))) :
    Triple Go.Proofs.Tryd.prog 17 ([Value.slice a1 k2 k3, Value.string s4]).toArray H Q :=
  Triple.of_vc refAdd.cx (by kernel_rfl) h

theorem refLessS.vc (s1 : ByteArray) (s2 : ByteArray) (H : PHeap) (Q : Value → PHeap → Prop)
    (h : ∃ (R3 : Rl) (M4 : Mu),
  R3 [Value.int IntKind.i64 0] H ∧
    ∀ (n5 : Int) (H6 : PHeap),
      R3 [Value.int IntKind.i64 n5] H6 →
        ((bif decide (n5 < (↑s1.size : Int)) then decide (n5 < (↑s2.size : Int)) else false) = true →
        ∃ H7,
        Vx.Sub H7 H6 ∧
        Ob (0 ≤ n5 ∧ n5 < (↑s1.size : Int)) ∧
        Ob (0 ≤ n5 ∧ n5 < (↑s2.size : Int)) ∧
        ((byteAt s1 n5 != byteAt s2 n5) = true →
        ∃ H8, Vx.Sub H8 H6 ∧ Ob (0 ≤ n5 ∧ n5 < (↑s1.size : Int)) ∧ Ob (0 ≤ n5 ∧ n5 < (↑s2.size : Int)) ∧ Q (Value.bool (decide (byteAt s1 n5 < byteAt s2 n5))) H6) ∧
        ((byteAt s1 n5 != byteAt s2 n5) = false →
        R3 [Value.int IntKind.i64 (IntKind.i64.wrap (n5 + 1))] H6 ∧ Less (M4 [Value.int IntKind.i64 (IntKind.i64.wrap (n5 + 1))] H6) (M4 [Value.int IntKind.i64 n5] H6))) ∧
        ((bif decide (n5 < (↑s1.size : Int)) then decide (n5 < (↑s2.size : Int)) else false) = false → Q (Value.bool (decide ((↑s1.size : Int) < (↑s2.size : Int)))) H6)) :
    Triple Go.Proofs.Tryd.prog 30 ([Value.string s1, Value.string s2]).toArray H Q :=
  Triple.of_vc refLessS.cx (by kernel_rfl) h

theorem right.vc (s1 : ByteArray) (H : PHeap) (Q : Value → PHeap → Prop)
    (h : (eqS s1 ({ data := #[] } : ByteArray) = false →
    (decide ((↑s1.size : Int) > 16) = false →
        Ob ((0 : Int) ≤ 0 ∧ 0 < (↑s1.size : Int)) ∧
        ((byteAt s1 0 == 45) = true → Q (Value.bool false) H) ∧
        ((byteAt s1 0 == 45) = false →
        ∃ (R2 : Rl) (M3 : Mu),
        R2 [Value.int IntKind.i64 0] H ∧
        ∀ (n4 : Int) (H5 : PHeap),
        R2 [Value.int IntKind.i64 n4] H5 →
        (decide (n4 < (↑s1.size : Int)) = true →
        Ob (0 ≤ n4 ∧ n4 < (↑s1.size : Int)) ∧
        Triple Proofs.Tryd.prog 37 #[Value.int IntKind.u8 (byteAt s1 n4)] H5 fun v6 H7 =>
        ∃ b8,
        v6 = Value.bool b8 ∧
        ((!b8) = true → Q (Value.bool false) H7) ∧
        ((!b8) = false →
        R2 [Value.int IntKind.i64 (IntKind.i64.wrap (n4 + 1))] H7 ∧
        Less (M3 [Value.int IntKind.i64 (IntKind.i64.wrap (n4 + 1))] H7) (M3 [Value.int IntKind.i64 n4] H5))) ∧
        (decide (n4 < (↑s1.size : Int)) = false → Q (Value.bool true) H5))) ∧
      (decide ((↑s1.size : Int) > 16) = !false → Q (Value.bool false) H)) ∧
  (eqS s1 ({ data := #[] } : ByteArray) = !false → Q (Value.bool false) H)) :
    Triple Go.Proofs.Tryd.prog 25 ([Value.string s1]).toArray H Q :=
  Triple.of_vc right.cx (by kernel_rfl) h

theorem sign.vc (n1 : Int) (H : PHeap) (Q : Value → PHeap → Prop)
    (h : Q
  (Value.bool
    (bif decide (n1 ≥ 97) then bif decide (n1 ≤ 122) then true else bif decide (n1 ≥ 48) then bif decide (n1 ≤ 57) then true else n1 == 45 else n1 == 45
    else bif decide (n1 ≥ 48) then bif decide (n1 ≤ 57) then true else n1 == 45 else n1 == 45))
  H) :
    Triple Go.Proofs.Tryd.prog 37 ([Value.int IntKind.u8 n1]).toArray H Q :=
  Triple.of_vc sign.cx (by kernel_rfl) h

theorem farS.vc (a1 : Option Addr) (k2 : Nat) (k3 : Nat) (H : PHeap) (Q : Value → PHeap → Prop)
    (h : ∃ (R4 : Rl) (M5 : Mu),
  R4 [Value.int IntKind.i64 0] H ∧
    ∀ (n6 : Int) (H7 : PHeap),
      R4 [Value.int IntKind.i64 n6] H7 →
        ((bif decide (n6 < (↑k2 : Int)) then decide (n6 < 100) else false) = true →
        Ob (a1 ≠ none ∧ 0 ≤ n6 ∧ n6 < (↑k2 : Int)) ∧
        ∃ s8,
        Reads H7 (elemA a1 n6 1) [Value.string s8] ∧
        (decide ((↑s8.size : Int) > 40) = true → Q (Value.bool true) H7) ∧
        (decide ((↑s8.size : Int) > 40) = false →
        R4 [Value.int IntKind.i64 (IntKind.i64.wrap (n6 + 1))] H7 ∧ Less (M5 [Value.int IntKind.i64 (IntKind.i64.wrap (n6 + 1))] H7) (M5 [Value.int IntKind.i64 n6] H7))) ∧
        ((bif decide (n6 < (↑k2 : Int)) then decide (n6 < 100) else false) = false → Q (Value.bool (decide ((↑k2 : Int) > 60))) H7)) :
    Triple Go.Proofs.Tryd.prog 9 ([Value.slice a1 k2 k3]).toArray H Q :=
  Triple.of_vc farS.cx (by kernel_rfl) h

end Go.Vc
