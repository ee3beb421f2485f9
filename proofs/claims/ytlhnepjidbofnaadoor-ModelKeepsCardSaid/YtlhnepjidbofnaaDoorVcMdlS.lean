/- What is to be shown of each function, in its normal form. Printed by a program of this session's, checked by the kernel. -/
import Derived.Test.YtlhnepjidbofnaaDoorE2
import Derived.Test.YtlhnepjidbofnaaDoorProg
set_option linter.unusedVariables false
set_option maxRecDepth 100000
namespace Go.Vc
open Go.Vx Go
def sDelF.cx : Cx := ⟨[], [], [], []⟩
def sCloneF.cx : Cx := ⟨[], [], [], []⟩
def sCloneB.cx : Cx := ⟨[], [], [], []⟩
def sCloneS.cx : Cx := ⟨[], [], [], []⟩
def sConF.cx : Cx := ⟨[], [], [], []⟩
def sIdxF.cx : Cx := ⟨[], [(2, [8], [])], [], []⟩
def sConE.cx : Cx := ⟨[], [], [], []⟩
def sIdxE.cx : Cx := ⟨[], [(2, [8], [])], [], []⟩
def sIsSorted.cx : Cx := ⟨[], [(2, [3], [])], [], []⟩
def sCompact.cx : Cx := ⟨[], [(4, [3], []), (9, [3, 5], [])], [], []⟩
def sConS.cx : Cx := ⟨[], [], [], []⟩
def sIdxS.cx : Cx := ⟨[], [(2, [8], [])], [], []⟩
def sCmpLess.cx : Cx := ⟨[], [], [], []⟩
def sIsNaN.cx : Cx := ⟨[], [], [], []⟩

theorem sDelF.vc (a1 : Option Addr) (k2 : Nat) (k3 : Nat) (n4 : Int) (n5 : Int) (H : PHeap) (Q : Value → PHeap → Prop)
    (h : Ob (0 ≤ n4 ∧ n4 ≤ n5 ∧ n5 ≤ (↑k2 : Int) ∧ (↑k2 : Int) ≤ (↑k3 : Int)) ∧
  ((n4 == n5) = true → Q (Value.slice a1 k2 k3) H) ∧
    ((n4 == n5) = false →
      ∃ H6,
        Vx.Sub H6 H ∧
        Ob ((0 : Int) ≤ 0 ∧ 0 ≤ n4 ∧ n4 ≤ (↑k3 : Int)) ∧
        Ob (0 ≤ n5 ∧ n5 ≤ (↑k2 : Int) ∧ (↑k2 : Int) ≤ (↑k3 : Int)) ∧
        EvV Proofs.Tryd.prog
        (Builtin.append_ #[60, 60] 60 #[Value.slice (slA a1 0 k3 2) (n4.toNat - Int.toNat 0) (k3 - Int.toNat 0), Value.slice (slA a1 n5 k3 2) ((↑k2 : Int).toNat - n5.toNat) (k3 - n5.toNat)]) H
        fun v7 H8 =>
        ∃ a9 k10 k11,
        v7 = Value.slice a9 k10 k11 ∧
        Ob (0 ≤ (↑k10 : Int) ∧ (↑k10 : Int) ≤ (↑k2 : Int) ∧ (↑k2 : Int) ≤ (↑k11 : Int)) ∧
        EvV Proofs.Tryd.prog (Builtin.clear_ #[60] 0 #[Value.slice (slA a9 (↑k10 : Int) k11 2) ((↑k2 : Int).toNat - (↑k10 : Int).toNat) (k11 - (↑k10 : Int).toNat)]) H8 fun v12 H13 =>
        Q (Value.slice a9 k10 k11) H13)) :
    Triple Go.Proofs.Tryd.prog 48 ([Value.slice a1 k2 k3, Value.int IntKind.i64 n4, Value.int IntKind.i64 n5]).toArray H Q :=
  Triple.of_vc sDelF.cx (by kernel_rfl) h

theorem sCloneF.vc (a1 : Option Addr) (k2 : Nat) (k3 : Nat) (H : PHeap) (Q : Value → PHeap → Prop)
    (h : (a1.isNone = true → Q (Value.slice none 0 0) H) ∧
  (a1.isNone = false →
    ∀ (k4 : Nat),
      H k4 = none →
        EvV Proofs.Tryd.prog (Builtin.append_ #[60, 60] 60 #[Value.slice (at0 k4) 0 0, Value.slice a1 k2 k3]) (H.upd k4 (Obj.cells #[] 71)) fun v5 H6 =>
        ∃ a7 k8 k9, v5 = Value.slice a7 k8 k9 ∧ Q (Value.slice a7 k8 k9) H6)) :
    Triple Go.Proofs.Tryd.prog 28 ([Value.slice a1 k2 k3]).toArray H Q :=
  Triple.of_vc sCloneF.cx (by kernel_rfl) h

theorem sCloneB.vc (a1 : Option Addr) (k2 : Nat) (k3 : Nat) (H : PHeap) (Q : Value → PHeap → Prop)
    (h : (a1.isNone = true → Q (Value.slice none 0 0) H) ∧
  (a1.isNone = false →
    ∀ (k4 : Nat),
      H k4 = none →
        EvV Proofs.Tryd.prog (Builtin.append_ #[23, 23] 23 #[Value.slice (at0 k4) 0 0, Value.slice a1 k2 k3]) (H.upd k4 (Obj.cells #[] 5)) fun v5 H6 =>
        ∃ a7 k8 k9, v5 = Value.slice a7 k8 k9 ∧ Q (Value.slice a7 k8 k9) H6)) :
    Triple Go.Proofs.Tryd.prog 11 ([Value.slice a1 k2 k3]).toArray H Q :=
  Triple.of_vc sCloneB.cx (by kernel_rfl) h

theorem sCloneS.vc (a1 : Option Addr) (k2 : Nat) (k3 : Nat) (H : PHeap) (Q : Value → PHeap → Prop)
    (h : (a1.isNone = true → Q (Value.slice none 0 0) H) ∧
  (a1.isNone = false →
    ∀ (k4 : Nat),
      H k4 = none →
        EvV Proofs.Tryd.prog (Builtin.append_ #[27, 27] 27 #[Value.slice (at0 k4) 0 0, Value.slice a1 k2 k3]) (H.upd k4 (Obj.cells #[] 9)) fun v5 H6 =>
        ∃ a7 k8 k9, v5 = Value.slice a7 k8 k9 ∧ Q (Value.slice a7 k8 k9) H6)) :
    Triple Go.Proofs.Tryd.prog 76 ([Value.slice a1 k2 k3]).toArray H Q :=
  Triple.of_vc sCloneS.cx (by kernel_rfl) h

theorem sConF.vc (a1 : Option Addr) (k2 : Nat) (k3 : Nat) (v4 : Value) (H : PHeap) (Q : Value → PHeap → Prop)
    (h : Triple Proofs.Tryd.prog 36 #[Value.slice a1 k2 k3, v4] H fun v5 H6 => ∃ n7, v5 = Value.int IntKind.i64 n7 ∧ Q (Value.bool (decide (n7 ≥ 0))) H6) :
    Triple Go.Proofs.Tryd.prog 23 ([Value.slice a1 k2 k3, v4]).toArray H Q :=
  Triple.of_vc sConF.cx (by kernel_rfl) h

theorem sIdxF.vc (a1 : Option Addr) (k2 : Nat) (k3 : Nat) (v4 : Value) (H : PHeap) (Q : Value → PHeap → Prop)
    (h : ∃ (R5 : Rl) (M6 : Mu),
  R5 [Value.int IntKind.i64 0] H ∧
    ∀ (n7 : Int) (H8 : PHeap),
      R5 [Value.int IntKind.i64 n7] H8 →
        (decide (n7 < (↑k2 : Int)) = true →
        Ob (a1 ≠ none ∧ 0 ≤ n7 ∧ n7 < (↑k2 : Int)) ∧
        ∃ n9 s10 a11 k12 k13 b14 b15,
        Reads H8 (elemA a1 n7 5) [Value.int IntKind.i64 n9, Value.string s10, Value.slice a11 k12 k13, Value.bool b14, Value.bool b15] ∧
        CallY Proofs.Tryd.prog v4 #[Value.agg #[Value.int IntKind.i64 n9, Value.string s10, Value.slice a11 k12 k13, Value.bool b14, Value.bool b15]] H8 fun v16 H17 =>
        ∃ b18,
        v16 = Value.bool b18 ∧
        (b18 = true → Q (Value.int IntKind.i64 n7) H17) ∧
        (b18 = false →
        R5 [Value.int IntKind.i64 (IntKind.i64.wrap (n7 + 1))] H17 ∧ Less (M6 [Value.int IntKind.i64 (IntKind.i64.wrap (n7 + 1))] H17) (M6 [Value.int IntKind.i64 n7] H8))) ∧
        (decide (n7 < (↑k2 : Int)) = false → Q (Value.int IntKind.i64 (-1)) H8)) :
    Triple Go.Proofs.Tryd.prog 36 ([Value.slice a1 k2 k3, v4]).toArray H Q :=
  Triple.of_vc sIdxF.cx (by kernel_rfl) h

theorem sConE.vc (a1 : Option Addr) (k2 : Nat) (k3 : Nat) (v4 : Value) (H : PHeap) (Q : Value → PHeap → Prop)
    (h : Triple Proofs.Tryd.prog 35 #[Value.slice a1 k2 k3, v4] H fun v5 H6 => ∃ n7, v5 = Value.int IntKind.i64 n7 ∧ Q (Value.bool (decide (n7 ≥ 0))) H6) :
    Triple Go.Proofs.Tryd.prog 21 ([Value.slice a1 k2 k3, v4]).toArray H Q :=
  Triple.of_vc sConE.cx (by kernel_rfl) h

theorem sIdxE.vc (a1 : Option Addr) (k2 : Nat) (k3 : Nat) (v4 : Value) (H : PHeap) (Q : Value → PHeap → Prop)
    (h : ∃ (R5 : Rl) (M6 : Mu),
  R5 [Value.int IntKind.i64 0] H ∧
    ∀ (n7 : Int) (H8 : PHeap),
      R5 [Value.int IntKind.i64 n7] H8 →
        (decide (n7 < (↑k2 : Int)) = true →
        Ob (a1 ≠ none ∧ 0 ≤ n7 ∧ n7 < (↑k2 : Int)) ∧
        ∃ n9 n10 n11 n12 s13 a14 k15 k16 n17 n18 a19 k20 k21 a22 k23 k24,
        Reads H8 (elemA a1 n7 10)
        [Value.int IntKind.i64 n9, Value.int IntKind.i64 n10, Value.int IntKind.i64 n11, Value.int IntKind.i64 n12, Value.string s13, Value.slice a14 k15 k16, Value.int IntKind.i64 n17,
        Value.int IntKind.i64 n18, Value.slice a19 k20 k21, Value.slice a22 k23 k24] ∧
        CallY Proofs.Tryd.prog v4
        #[Value.agg
        #[Value.int IntKind.i64 n9, Value.int IntKind.i64 n10, Value.int IntKind.i64 n11, Value.int IntKind.i64 n12, Value.string s13, Value.slice a14 k15 k16,
        Value.int IntKind.i64 n17, Value.int IntKind.i64 n18, Value.slice a19 k20 k21, Value.slice a22 k23 k24]]
        H8 fun v25 H26 =>
        ∃ b27,
        v25 = Value.bool b27 ∧
        (b27 = true → Q (Value.int IntKind.i64 n7) H26) ∧
        (b27 = false →
        R5 [Value.int IntKind.i64 (IntKind.i64.wrap (n7 + 1))] H26 ∧ Less (M6 [Value.int IntKind.i64 (IntKind.i64.wrap (n7 + 1))] H26) (M6 [Value.int IntKind.i64 n7] H8))) ∧
        (decide (n7 < (↑k2 : Int)) = false → Q (Value.int IntKind.i64 (-1)) H8)) :
    Triple Go.Proofs.Tryd.prog 35 ([Value.slice a1 k2 k3, v4]).toArray H Q :=
  Triple.of_vc sIdxE.cx (by kernel_rfl) h

theorem sIsSorted.vc (a1 : Option Addr) (k2 : Nat) (k3 : Nat) (H : PHeap) (Q : Value → PHeap → Prop)
    (h : ∃ (R4 : Rl) (M5 : Mu),
  R4 [Value.int IntKind.i64 (IntKind.i64.wrap ((↑k2 : Int) - 1))] H ∧
    ∀ (n6 : Int) (H7 : PHeap),
      R4 [Value.int IntKind.i64 n6] H7 →
        (decide (n6 > 0) = true →
        ∃ H8,
        Vx.Sub H8 H7 ∧
        Ob (a1 ≠ none ∧ 0 ≤ n6 ∧ n6 < (↑k2 : Int)) ∧
        ∃ s9,
        Reads H8 (elemA a1 n6 1) [Value.string s9] ∧
        Ob (a1 ≠ none ∧ 0 ≤ IntKind.i64.wrap (n6 - 1) ∧ IntKind.i64.wrap (n6 - 1) < (↑k2 : Int)) ∧
        ∃ s10,
        Reads H8 (elemA a1 (IntKind.i64.wrap (n6 - 1)) 1) [Value.string s10] ∧
        Triple Proofs.Tryd.prog 55 #[Value.string s9, Value.string s10] H7 fun v11 H12 =>
        ∃ b13,
        v11 = Value.bool b13 ∧
        (b13 = true → Q (Value.bool false) H12) ∧
        (b13 = false →
        R4 [Value.int IntKind.i64 (IntKind.i64.wrap (n6 - 1))] H12 ∧
        Less (M5 [Value.int IntKind.i64 (IntKind.i64.wrap (n6 - 1))] H12) (M5 [Value.int IntKind.i64 n6] H7))) ∧
        (decide (n6 > 0) = false → Q (Value.bool true) H7)) :
    Triple Go.Proofs.Tryd.prog 74 ([Value.slice a1 k2 k3]).toArray H Q :=
  Triple.of_vc sIsSorted.cx (by kernel_rfl) h

theorem sCompact.vc (a1 : Option Addr) (k2 : Nat) (k3 : Nat) (H : PHeap) (Q : Value → PHeap → Prop)
    (h : (decide ((↑k2 : Int) < 2) = true → Q (Value.slice a1 k2 k3) H) ∧
  (decide ((↑k2 : Int) < 2) = false →
    ∃ (R4 : Rl) (M5 : Mu),
      R4 [Value.int IntKind.i64 1] H ∧
        ∀ (n6 : Int) (H7 : PHeap),
        R4 [Value.int IntKind.i64 n6] H7 →
        (decide (n6 < (↑k2 : Int)) = true →
        ∃ H8,
        Vx.Sub H8 H7 ∧
        Ob (a1 ≠ none ∧ 0 ≤ n6 ∧ n6 < (↑k2 : Int)) ∧
        ∃ s9,
        Reads H8 (elemA a1 n6 1) [Value.string s9] ∧
        Ob (a1 ≠ none ∧ 0 ≤ IntKind.i64.wrap (n6 - 1) ∧ IntKind.i64.wrap (n6 - 1) < (↑k2 : Int)) ∧
        ∃ s10,
        Reads H8 (elemA a1 (IntKind.i64.wrap (n6 - 1)) 1) [Value.string s10] ∧
        (eqS s9 s10 = true →
        Ob (0 ≤ n6 ∧ n6 ≤ (↑k2 : Int) ∧ (↑k2 : Int) ≤ (↑k3 : Int)) ∧
        ∃ (R11 : Rl) (M12 : Mu),
        R11 [Value.int IntKind.i64 n6, Value.int IntKind.i64 1] H7 ∧
        ∀ (n13 n14 : Int) (H15 : PHeap),
        R11 [Value.int IntKind.i64 n13, Value.int IntKind.i64 n14] H15 →
        (decide (n14 < (↑((↑k2 : Int).toNat - n6.toNat) : Int)) = true →
        ∃ H16,
        Vx.Sub H16 H15 ∧
        Ob (slA a1 n6 k3 1 ≠ none ∧ 0 ≤ n14 ∧ n14 < (↑((↑k2 : Int).toNat - n6.toNat) : Int)) ∧
        ∃ s17,
        Reads H16 (elemA (slA a1 n6 k3 1) n14 1) [Value.string s17] ∧
        Ob (slA a1 n6 k3 1 ≠ none ∧ 0 ≤ IntKind.i64.wrap (n14 - 1) ∧ IntKind.i64.wrap (n14 - 1) < (↑((↑k2 : Int).toNat - n6.toNat) : Int)) ∧
        ∃ s18,
        Reads H16 (elemA (slA a1 n6 k3 1) (IntKind.i64.wrap (n14 - 1)) 1) [Value.string s18] ∧
        ((!eqS s17 s18) = true →
        Ob (slA a1 n6 k3 1 ≠ none ∧ 0 ≤ n14 ∧ n14 < (↑((↑k2 : Int).toNat - n6.toNat) : Int)) ∧
        ∃ s19,
        Reads H15 (elemA (slA a1 n6 k3 1) n14 1) [Value.string s19] ∧
        Ob (a1 ≠ none ∧ 0 ≤ n13 ∧ n13 < (↑k2 : Int)) ∧
        ∃ H20,
        Writes H15 H20 (elemA a1 n13 1) [Value.string s19] ∧
        R11 [Value.int IntKind.i64 (IntKind.i64.wrap (n13 + 1)), Value.int IntKind.i64 (IntKind.i64.wrap (n14 + 1))] H20 ∧
        Less
        (M12 [Value.int IntKind.i64 (IntKind.i64.wrap (n13 + 1)), Value.int IntKind.i64 (IntKind.i64.wrap (n14 + 1))] H20)
        (M12 [Value.int IntKind.i64 n13, Value.int IntKind.i64 n14] H15)) ∧
        ((!eqS s17 s18) = false →
        R11 [Value.int IntKind.i64 n13, Value.int IntKind.i64 (IntKind.i64.wrap (n14 + 1))] H15 ∧
        Less (M12 [Value.int IntKind.i64 n13, Value.int IntKind.i64 (IntKind.i64.wrap (n14 + 1))] H15)
        (M12 [Value.int IntKind.i64 n13, Value.int IntKind.i64 n14] H15))) ∧
        (decide (n14 < (↑((↑k2 : Int).toNat - n6.toNat) : Int)) = false →
        Ob (0 ≤ n13 ∧ n13 ≤ (↑k2 : Int) ∧ (↑k2 : Int) ≤ (↑k3 : Int)) ∧
        EvV Proofs.Tryd.prog (Builtin.clear_ #[27] 0 #[Value.slice (slA a1 n13 k3 1) ((↑k2 : Int).toNat - n13.toNat) (k3 - n13.toNat)]) H15 fun v21 H22 =>
        Ob ((0 : Int) ≤ 0 ∧ 0 ≤ n13 ∧ n13 ≤ (↑k3 : Int)) ∧ Q (Value.slice (slA a1 0 k3 1) (n13.toNat - Int.toNat 0) (k3 - Int.toNat 0)) H22)) ∧
        (eqS s9 s10 = false →
        R4 [Value.int IntKind.i64 (IntKind.i64.wrap (n6 + 1))] H7 ∧ Less (M5 [Value.int IntKind.i64 (IntKind.i64.wrap (n6 + 1))] H7) (M5 [Value.int IntKind.i64 n6] H7))) ∧
        (decide (n6 < (↑k2 : Int)) = false → Q (Value.slice a1 k2 k3) H7))) :
    Triple Go.Proofs.Tryd.prog 75 ([Value.slice a1 k2 k3]).toArray H Q :=
  Triple.of_vc sCompact.cx (by kernel_rfl) h

theorem sConS.vc (a1 : Option Addr) (k2 : Nat) (k3 : Nat) (s4 : ByteArray) (H : PHeap) (Q : Value → PHeap → Prop)
    (h : Triple Proofs.Tryd.prog 82 #[Value.slice a1 k2 k3, Value.string s4] H fun v5 H6 => ∃ n7, v5 = Value.int IntKind.i64 n7 ∧ Q (Value.bool (decide (n7 ≥ 0))) H6) :
    Triple Go.Proofs.Tryd.prog 77 ([Value.slice a1 k2 k3, Value.string s4]).toArray H Q :=
  Triple.of_vc sConS.cx (by kernel_rfl) h

theorem sIdxS.vc (a1 : Option Addr) (k2 : Nat) (k3 : Nat) (s4 : ByteArray) (H : PHeap) (Q : Value → PHeap → Prop)
    (h : ∃ (R5 : Rl) (M6 : Mu),
  R5 [Value.int IntKind.i64 0] H ∧
    ∀ (n7 : Int) (H8 : PHeap),
      R5 [Value.int IntKind.i64 n7] H8 →
        (decide (n7 < (↑k2 : Int)) = true →
        Ob (a1 ≠ none ∧ 0 ≤ n7 ∧ n7 < (↑k2 : Int)) ∧
        ∃ s9,
        Reads H8 (elemA a1 n7 1) [Value.string s9] ∧
        (eqS s4 s9 = true → Q (Value.int IntKind.i64 n7) H8) ∧
        (eqS s4 s9 = false →
        R5 [Value.int IntKind.i64 (IntKind.i64.wrap (n7 + 1))] H8 ∧ Less (M6 [Value.int IntKind.i64 (IntKind.i64.wrap (n7 + 1))] H8) (M6 [Value.int IntKind.i64 n7] H8))) ∧
        (decide (n7 < (↑k2 : Int)) = false → Q (Value.int IntKind.i64 (-1)) H8)) :
    Triple Go.Proofs.Tryd.prog 82 ([Value.slice a1 k2 k3, Value.string s4]).toArray H Q :=
  Triple.of_vc sIdxS.cx (by kernel_rfl) h

theorem sCmpLess.vc (s1 : ByteArray) (s2 : ByteArray) (H : PHeap) (Q : Value → PHeap → Prop)
    (h : Triple Proofs.Tryd.prog 73 #[Value.string s1] H fun v3 H4 =>
  ∃ b5,
    v3 = Value.bool b5 ∧
      (b5 = true → Triple Proofs.Tryd.prog 73 #[Value.string s2] H4 fun v6 H7 => ∃ b8, v6 = Value.bool b8 ∧ Q (Value.bool (bif !b8 then true else lessS s1 s2)) H7) ∧
        (b5 = !true → Q (Value.bool (lessS s1 s2)) H4)) :
    Triple Go.Proofs.Tryd.prog 55 ([Value.string s1, Value.string s2]).toArray H Q :=
  Triple.of_vc sCmpLess.cx (by kernel_rfl) h

theorem sIsNaN.vc (s1 : ByteArray) (H : PHeap) (Q : Value → PHeap → Prop)
    (h : Q (Value.bool !eqS s1 s1) H) :
    Triple Go.Proofs.Tryd.prog 73 ([Value.string s1]).toArray H Q :=
  Triple.of_vc sIsNaN.cx (by kernel_rfl) h

end Go.Vc
