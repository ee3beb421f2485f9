/- What is to be shown of each function, in its normal form. Printed by a program of this session's, checked by the kernel. -/
import Derived.Test.YtcdgeeakfoofpabVxN
import Derived.Test.YtcdgeeakfoofpabProg
set_option linter.unusedVariables false
set_option maxRecDepth 100000
namespace Go.Vc
open Go.Vx Go
def some.cx : Cx := ⟨[], [], [], []⟩
def unknown.cx : Cx := ⟨[], [], [], []⟩
def known.cx : Cx := ⟨[], [], [], []⟩
def know.cx : Cx := ⟨[], [], [], []⟩
def take.cx : Cx := ⟨[], [], [], []⟩
def done.cx : Cx := ⟨[], [(5, [5, 18], [])], [], []⟩
def forget.cx : Cx := ⟨[], [], [], []⟩
def nodes.cx : Cx := ⟨[], [(3, [3], [])], [], [(12, [3, 32])]⟩
def dump.cx : Cx := ⟨[3], [(10, [28], []), (16, [44], [])], [], []⟩
def wText.cx : Cx := ⟨[], [], [], []⟩
def cloneB.cx : Cx := ⟨[], [], [], []⟩
def cloneI.cx : Cx := ⟨[], [], [], []⟩

theorem some.vc (a1 : Option Addr) (v2 : Value) (H : PHeap) (Q : Value → PHeap → Prop)
    (h : ((!a1.isNone) = true → CallY Proofs.Try.prog v2 #[Value.pointer a1] H fun v3 H4 => ∃ b5, v3 = Value.bool b5 ∧ Q (Value.bool b5) H4) ∧ ((!a1.isNone) = !true → Q (Value.bool false) H)) :
    Triple Go.Proofs.Try.prog 21 ([Value.pointer a1, v2]).toArray H Q :=
  Triple.of_vc some.cx (by kernel_rfl) h

theorem unknown.vc (a1 : Option Addr) (H : PHeap) (Q : Value → PHeap → Prop)
    (h : Ob (a1 ≠ none) ∧ Ob (a1 ≠ none) ∧ ∃ b2, Reads H (fldA a1 0) [Value.bool b2] ∧ Q (Value.bool !b2) H) :
    Triple Go.Proofs.Try.prog 22 ([Value.pointer a1]).toArray H Q :=
  Triple.of_vc unknown.cx (by kernel_rfl) h

theorem known.vc (a1 : Option Addr) (H : PHeap) (Q : Value → PHeap → Prop)
    (h : ((!a1.isNone) = true → Triple Proofs.Try.prog 21 #[Value.pointer a1, Value.func (Fn.func 22) #[] #[]] H fun v2 H3 => ∃ b4, v2 = Value.bool b4 ∧ Q (Value.bool !b4) H3) ∧
  ((!a1.isNone) = !true → Q (Value.bool false) H)) :
    Triple Go.Proofs.Try.prog 15 ([Value.pointer a1]).toArray H Q :=
  Triple.of_vc known.cx (by kernel_rfl) h

theorem know.vc (a1 : Option Addr) (a2 : Option Addr) (k3 : Nat) (k4 : Nat) (H : PHeap) (Q : Value → PHeap → Prop)
    (h : Triple Proofs.Try.prog 21 #[Value.pointer a1, Value.func (Fn.func 22) #[] #[]] H fun v5 H6 =>
  ∃ b7,
    v5 = Value.bool b7 ∧
      ((!b7) = true → Q (Value.bool false) H6) ∧
        ((!b7) = false →
        Triple Proofs.Try.prog 23 #[Value.slice a2 k3 k4] H6 fun v8 H9 =>
        ∃ a10 k11 k12,
        v8 = Value.slice a10 k11 k12 ∧
        Ob (a1 ≠ none) ∧
        Ob (a1 ≠ none) ∧
        ∃ H13, Writes H9 H13 (fldA a1 0) [Value.bool true] ∧ Ob (a1 ≠ none) ∧ Ob (a1 ≠ none) ∧ ∃ H14, Writes H13 H14 (fldA a1 1) [Value.slice a10 k11 k12] ∧ Q (Value.bool true) H14)) :
    Triple Go.Proofs.Try.prog 8 ([Value.pointer a1, Value.slice a2 k3 k4]).toArray H Q :=
  Triple.of_vc know.cx (by kernel_rfl) h

theorem take.vc (a1 : Option Addr) (n2 : Int) (a3 : Option Addr) (k4 : Nat) (k5 : Nat) (H : PHeap) (Q : Value → PHeap → Prop)
    (h : (a1.isNone = true → Q (Value.bool false) H) ∧
  (a1.isNone = false →
    Ob (a1 ≠ none) ∧
      Ob (a1 ≠ none) ∧
        ∃ a6,
        Reads H (fldA a1 2) [Value.map a6] ∧
        LookV Proofs.Try.prog (Instr.lookup 25 (Value.map a6) (Value.int IntKind.i64 n2) true) H fun v7 =>
        ∃ a8 k9 k10 b11,
        v7 = Value.tuple #[Value.slice a8 k9 k10, Value.bool b11] ∧
        (b11 = true → Q (Value.bool false) H) ∧
        (b11 = false →
        Ob (a1 ≠ none) ∧
        Ob (a1 ≠ none) ∧
        ∃ a12,
        Reads H (fldA a1 2) [Value.map a12] ∧
        (a12.isNone = true →
        EvV Proofs.Try.prog (Instr.makeMap 25 none) H fun v13 H14 =>
        ∃ a15,
        v13 = Value.map a15 ∧
        Ob (a1 ≠ none) ∧
        Ob (a1 ≠ none) ∧
        ∃ H16,
        Writes H14 H16 (fldA a1 2) [Value.map a15] ∧
        ∃ H17,
        Vx.Sub H17 H16 ∧
        Ob (a1 ≠ none) ∧
        Ob (a1 ≠ none) ∧
        ∃ a18,
        Reads H17 (fldA a1 2) [Value.map a18] ∧
        Triple Proofs.Try.prog 19 #[Value.slice a3 k4 k5] H16 fun v19 H20 =>
        ∃ a21 k22 k23,
        v19 = Value.slice a21 k22 k23 ∧
        Vx.Sub H17 H20 ∧
        EvU Proofs.Try.prog (Instr.mapUpdate 25 (Value.map a18) (Value.int IntKind.i64 n2) (Value.slice a21 k22 k23)) H20 fun H24 =>
        Q (Value.bool true) H24) ∧
        (a12.isNone = false →
        ∃ H25,
        Vx.Sub H25 H ∧
        Ob (a1 ≠ none) ∧
        Ob (a1 ≠ none) ∧
        ∃ a26,
        Reads H25 (fldA a1 2) [Value.map a26] ∧
        Triple Proofs.Try.prog 19 #[Value.slice a3 k4 k5] H fun v27 H28 =>
        ∃ a29 k30 k31,
        v27 = Value.slice a29 k30 k31 ∧
        Vx.Sub H25 H28 ∧
        EvU Proofs.Try.prog (Instr.mapUpdate 25 (Value.map a26) (Value.int IntKind.i64 n2) (Value.slice a29 k30 k31)) H28 fun H32 =>
        Q (Value.bool true) H32)))) :
    Triple Go.Proofs.Try.prog 6 ([Value.pointer a1, Value.int IntKind.i64 n2, Value.slice a3 k4 k5]).toArray H Q :=
  Triple.of_vc take.cx (by kernel_rfl) h

theorem done.vc (a1 : Option Addr) (H : PHeap) (Q : Value → PHeap → Prop)
    (h : Triple Proofs.Try.prog 15 #[Value.pointer a1] H fun v2 H3 =>
  ∃ b4,
    v2 = Value.bool b4 ∧
      ((!b4) = true → Q (Value.tuple #[Value.slice none 0 0, Value.slice none 0 0, Value.bool false]) H3) ∧
        ((!b4) = false →
        Ob (a1 ≠ none) ∧
        Ob (a1 ≠ none) ∧
        ∃ a5 k6 k7,
        Reads H3 (fldA a1 1) [Value.slice a5 k6 k7] ∧
        ∃ (R8 : Rl) (M9 : Mu),
        R8 [Value.slice none 0 0, Value.int IntKind.i64 0] H3 ∧
        ∀ (a10 : Option Addr) (k11 k12 : Nat) (n13 : Int) (H14 : PHeap),
        R8 [Value.slice a10 k11 k12, Value.int IntKind.i64 n13] H14 →
        (decide (n13 < (↑k6 : Int)) = true →
        Ob (a5 ≠ none ∧ 0 ≤ n13 ∧ n13 < (↑k6 : Int)) ∧
        ∃ n15,
        Reads H14 (elemA a5 n13 1) [Value.int IntKind.i64 n15] ∧
        Ob (a1 ≠ none) ∧
        Ob (a1 ≠ none) ∧
        ∃ a16,
        Reads H14 (fldA a1 2) [Value.map a16] ∧
        LookV Proofs.Try.prog (Instr.lookup 25 (Value.map a16) (Value.int IntKind.i64 n15) true) H14 fun v17 =>
        ∃ a18 k19 k20 b21,
        v17 = Value.tuple #[Value.slice a18 k19 k20, Value.bool b21] ∧
        ((!b21) = true → Q (Value.tuple #[Value.slice none 0 0, Value.slice none 0 0, Value.bool false]) H14) ∧
        ((!b21) = false →
        Triple Proofs.Try.prog 19 #[Value.slice a18 k19 k20] H14 fun v22 H23 =>
        ∃ a24 k25 k26,
        v22 = Value.slice a24 k25 k26 ∧
        ∀ (k27 : Nat),
        H23 k27 = none →
        EvV Proofs.Try.prog (Builtin.append_ #[29, 29] 29 #[Value.slice a10 k11 k12, Value.slice (at0 k27) 1 1])
        (H23.upd k27 (Obj.cells #[Value.slice a24 k25 k26] 32)) fun v28 H29 =>
        ∃ a30 k31 k32,
        v28 = Value.slice a30 k31 k32 ∧
        R8 [Value.slice a30 k31 k32, Value.int IntKind.i64 (IntKind.i64.wrap (n13 + 1))] H29 ∧
        Less (M9 [Value.slice a30 k31 k32, Value.int IntKind.i64 (IntKind.i64.wrap (n13 + 1))] H29)
        (M9 [Value.slice a10 k11 k12, Value.int IntKind.i64 n13] H14))) ∧
        (decide (n13 < (↑k6 : Int)) = false →
        Ob (a1 ≠ none) ∧
        Ob (a1 ≠ none) ∧
        ∃ a33 k34 k35,
        Reads H14 (fldA a1 1) [Value.slice a33 k34 k35] ∧
        Triple Proofs.Try.prog 23 #[Value.slice a33 k34 k35] H14 fun v36 H37 =>
        ∃ a38 k39 k40, v36 = Value.slice a38 k39 k40 ∧ Q (Value.tuple #[Value.slice a38 k39 k40, Value.slice a10 k11 k12, Value.bool true]) H37))) :
    Triple Go.Proofs.Try.prog 11 ([Value.pointer a1]).toArray H Q :=
  Triple.of_vc done.cx (by kernel_rfl) h

theorem forget.vc (a1 : Option Addr) (H : PHeap) (Q : Value → PHeap → Prop)
    (h : ((!a1.isNone) = true → Ob (a1 ≠ none) ∧ ∃ H2, Writes H H2 a1 [Value.bool false, Value.slice none 0 0, Value.map none] ∧ Q (Value.tuple #[]) H2) ∧ ((!a1.isNone) = false → Q (Value.tuple #[]) H)) :
    Triple Go.Proofs.Try.prog 10 ([Value.pointer a1]).toArray H Q :=
  Triple.of_vc forget.cx (by kernel_rfl) h

theorem nodes.vc (a1 : Option Addr) (H : PHeap) (Q : Value → PHeap → Prop)
    (h : Ob (a1 ≠ none) ∧
  Ob (a1 ≠ none) ∧
    ∃ a2,
      Reads H (fldA a1 2) [Value.map a2] ∧
        EvV Proofs.Try.prog (Instr.range 25 (Value.map a2)) H fun v3 H4 =>
        ∃ a5,
        v3 = Value.pointer a5 ∧
        ∃ (R6 : Rl) (M7 : Mu),
        R6 [Value.slice none 0 0] H4 ∧
        ∀ (a8 : Option Addr) (k9 k10 : Nat) (H11 : PHeap),
        R6 [Value.slice a8 k9 k10] H11 →
        EvV Proofs.Try.prog (Instr.next (Value.pointer a5) false 0) H11 fun v12 H13 =>
        v12 = Value.tuple #[Value.bool false] ∧
        (false = true →
        EvV Proofs.Try.prog (Instr.entry (Value.pointer a5)) H13 fun v14 H15 =>
        ∃ n16 a17 k18 k19,
        v14 = Value.tuple #[Value.int IntKind.i64 n16, Value.slice a17 k18 k19] ∧
        ∀ (k20 : Nat),
        H15 k20 = none →
        EvV Proofs.Try.prog (Builtin.append_ #[24, 24] 24 #[Value.slice a8 k9 k10, Value.slice (at0 k20) 1 1])
        (H15.upd k20 (Obj.cells #[Value.int IntKind.i64 n16] 3)) fun v21 H22 =>
        ∃ a23 k24 k25,
        v21 = Value.slice a23 k24 k25 ∧ R6 [Value.slice a23 k24 k25] H22 ∧ Less (M7 [Value.slice a23 k24 k25] H22) (M7 [Value.slice a8 k9 k10] H11)) ∧
        (false = false → Triple Proofs.Try.prog 31 #[Value.slice a8 k9 k10] H13 fun v26 H27 => v26 = Value.tuple #[] ∧ Q (Value.slice a8 k9 k10) H27) ∨
        ∃ v28 v29,
        v12 = Value.tuple #[Value.bool true, v28, v29] ∧
        (true = true →
        EvV Proofs.Try.prog (Instr.entry (Value.pointer a5)) H13 fun v30 H31 =>
        ∃ n32 a33 k34 k35,
        v30 = Value.tuple #[Value.int IntKind.i64 n32, Value.slice a33 k34 k35] ∧
        ∀ (k36 : Nat),
        H31 k36 = none →
        EvV Proofs.Try.prog (Builtin.append_ #[24, 24] 24 #[Value.slice a8 k9 k10, Value.slice (at0 k36) 1 1])
        (H31.upd k36 (Obj.cells #[Value.int IntKind.i64 n32] 3)) fun v37 H38 =>
        ∃ a39 k40 k41,
        v37 = Value.slice a39 k40 k41 ∧ R6 [Value.slice a39 k40 k41] H38 ∧ Less (M7 [Value.slice a39 k40 k41] H38) (M7 [Value.slice a8 k9 k10] H11)) ∧
        (true = false → Triple Proofs.Try.prog 31 #[Value.slice a8 k9 k10] H13 fun v42 H43 => v42 = Value.tuple #[] ∧ Q (Value.slice a8 k9 k10) H43)) :
    Triple Go.Proofs.Try.prog 25 ([Value.pointer a1]).toArray H Q :=
  Triple.of_vc nodes.cx (by kernel_rfl) h

theorem dump.vc (a1 : Option Addr) (H : PHeap) (Q : Value → PHeap → Prop)
    (h : (a1.isNone = true → Q (Value.slice none 0 0) H) ∧
  (a1.isNone = false →
    ∀ (k2 : Nat),
      H k2 = none →
        Ob (a1 ≠ none) ∧
        Ob (a1 ≠ none) ∧
        ∃ b3,
        Reads (H.upd k2 (Obj.cells #[Value.slice none 0 0] 55)) (fldA a1 0) [Value.bool b3] ∧
        Triple Proofs.Try.prog 24 #[Value.pointer (at0 k2), Value.int IntKind.i64 1, Value.int IntKind.i64 (bif b3 then 1 else 0)]
        (H.upd k2 (Obj.cells #[Value.slice none 0 0] 55)) fun v4 H5 =>
        v4 = Value.tuple #[] ∧
        Ob (a1 ≠ none) ∧
        Ob (a1 ≠ none) ∧
        ∃ a6 k7 k8,
        Reads H5 (fldA a1 1) [Value.slice a6 k7 k8] ∧
        Triple Proofs.Try.prog 24 #[Value.pointer (at0 k2), Value.int IntKind.i64 1, Value.int IntKind.i64 (↑k7 : Int)] H5 fun v9 H10 =>
        v9 = Value.tuple #[] ∧
        Ob (a1 ≠ none) ∧
        Ob (a1 ≠ none) ∧
        ∃ a11 k12 k13,
        Reads H10 (fldA a1 1) [Value.slice a11 k12 k13] ∧
        ∃ (R14 : Rl) (M15 : Mu),
        R14 [Value.int IntKind.i64 0] H10 ∧
        ∀ (n16 : Int) (H17 : PHeap),
        R14 [Value.int IntKind.i64 n16] H17 →
        (decide (n16 < (↑k12 : Int)) = true →
        Ob (a11 ≠ none ∧ 0 ≤ n16 ∧ n16 < (↑k12 : Int)) ∧
        ∃ n18,
        Reads H17 (elemA a11 n16 1) [Value.int IntKind.i64 n18] ∧
        Triple Proofs.Try.prog 24 #[Value.pointer (at0 k2), Value.int IntKind.i64 2, Value.int IntKind.i64 n18] H17
        fun v19 H20 =>
        v19 = Value.tuple #[] ∧
        R14 [Value.int IntKind.i64 (IntKind.i64.wrap (n16 + 1))] H20 ∧
        Less (M15 [Value.int IntKind.i64 (IntKind.i64.wrap (n16 + 1))] H20) (M15 [Value.int IntKind.i64 n16] H17)) ∧
        (decide (n16 < (↑k12 : Int)) = false →
        Ob (a1 ≠ none) ∧
        Ob (a1 ≠ none) ∧
        ∃ a21,
        Reads H17 (fldA a1 2) [Value.map a21] ∧
        EvV Proofs.Try.prog (Builtin.len_ #[25] 3 #[Value.map a21]) H17 fun v22 H23 =>
        ∃ n24,
        v22 = Value.int IntKind.i64 n24 ∧
        Triple Proofs.Try.prog 24 #[Value.pointer (at0 k2), Value.int IntKind.i64 1, Value.int IntKind.i64 n24] H23
        fun v25 H26 =>
        v25 = Value.tuple #[] ∧
        Triple Proofs.Try.prog 25 #[Value.pointer a1] H26 fun v27 H28 =>
        ∃ a29 k30 k31,
        v27 = Value.slice a29 k30 k31 ∧
        ∃ (R32 : Rl) (M33 : Mu),
        R32 [Value.int IntKind.i64 0] H28 ∧
        ∀ (n34 : Int) (H35 : PHeap),
        R32 [Value.int IntKind.i64 n34] H35 →
        (decide (n34 < (↑k30 : Int)) = true →
        Ob (a29 ≠ none ∧ 0 ≤ n34 ∧ n34 < (↑k30 : Int)) ∧
        ∃ n36,
        Reads H35 (elemA a29 n34 1) [Value.int IntKind.i64 n36] ∧
        Triple Proofs.Try.prog 24
        #[Value.pointer (at0 k2), Value.int IntKind.i64 2, Value.int IntKind.i64 n36]
        H35 fun v37 H38 =>
        v37 = Value.tuple #[] ∧
        Ob (a1 ≠ none) ∧
        Ob (a1 ≠ none) ∧
        ∃ a39,
        Reads H38 (fldA a1 2) [Value.map a39] ∧
        LookV Proofs.Try.prog (Instr.lookup 25 (Value.map a39) (Value.int IntKind.i64 n36) false) H38
        fun v40 =>
        ∃ a41 k42 k43,
        v40 = Value.slice a41 k42 k43 ∧
        Triple Proofs.Try.prog 26
        #[Value.pointer (at0 k2), Value.slice a41 k42 k43] H38
        fun v44 H45 =>
        v44 = Value.tuple #[] ∧
        R32 [Value.int IntKind.i64 (IntKind.i64.wrap (n34 + 1))] H45 ∧
        Less (M33 [Value.int IntKind.i64 (IntKind.i64.wrap (n34 + 1))] H45)
        (M33 [Value.int IntKind.i64 n34] H35)) ∧
        (decide (n34 < (↑k30 : Int)) = false →
        Triple Proofs.Try.prog 27 #[Value.pointer (at0 k2)] H35 fun v46 H47 =>
        ∃ a48 k49 k50, v46 = Value.slice a48 k49 k50 ∧ Q (Value.slice a48 k49 k50) H47)))) :
    Triple Go.Proofs.Try.prog 17 ([Value.pointer a1]).toArray H Q :=
  Triple.of_vc dump.cx (by kernel_rfl) h

theorem wText.vc (a1 : Option Addr) (a2 : Option Addr) (k3 : Nat) (k4 : Nat) (H : PHeap) (Q : Value → PHeap → Prop)
    (h : Ob ((0 : Int) ≤ 0 ∧ 0 ≤ minI (↑k3 : Int) 255 ∧ minI (↑k3 : Int) 255 ≤ (↑k4 : Int)) ∧
  Triple Proofs.Try.prog 24 #[Value.pointer a1, Value.int IntKind.i64 1, Value.int IntKind.i64 (↑((minI (↑k3 : Int) 255).toNat - Int.toNat 0) : Int)] H fun v5 H6 =>
    v5 = Value.tuple #[] ∧
      Triple Proofs.Try.prog 32 #[Value.pointer a1, Value.slice (slA a2 0 k4 1) ((minI (↑k3 : Int) 255).toNat - Int.toNat 0) (k4 - Int.toNat 0)] H6 fun v7 H8 =>
        v7 = Value.tuple #[] ∧ Q (Value.tuple #[]) H8) :
    Triple Go.Proofs.Try.prog 26 ([Value.pointer a1, Value.slice a2 k3 k4]).toArray H Q :=
  Triple.of_vc wText.cx (by kernel_rfl) h

theorem cloneB.vc (a1 : Option Addr) (k2 : Nat) (k3 : Nat) (H : PHeap) (Q : Value → PHeap → Prop)
    (h : (a1.isNone = true → Q (Value.slice none 0 0) H) ∧
  (a1.isNone = false →
    ∀ (k4 : Nat),
      H k4 = none →
        EvV Proofs.Try.prog (Builtin.append_ #[32, 32] 32 #[Value.slice (at0 k4) 0 0, Value.slice a1 k2 k3]) (H.upd k4 (Obj.cells #[] 5)) fun v5 H6 =>
        ∃ a7 k8 k9, v5 = Value.slice a7 k8 k9 ∧ Q (Value.slice a7 k8 k9) H6)) :
    Triple Go.Proofs.Try.prog 19 ([Value.slice a1 k2 k3]).toArray H Q :=
  Triple.of_vc cloneB.cx (by kernel_rfl) h

theorem cloneI.vc (a1 : Option Addr) (k2 : Nat) (k3 : Nat) (H : PHeap) (Q : Value → PHeap → Prop)
    (h : (a1.isNone = true → Q (Value.slice none 0 0) H) ∧
  (a1.isNone = false →
    ∀ (k4 : Nat),
      H k4 = none →
        EvV Proofs.Try.prog (Builtin.append_ #[24, 24] 24 #[Value.slice (at0 k4) 0 0, Value.slice a1 k2 k3]) (H.upd k4 (Obj.cells #[] 3)) fun v5 H6 =>
        ∃ a7 k8 k9, v5 = Value.slice a7 k8 k9 ∧ Q (Value.slice a7 k8 k9) H6)) :
    Triple Go.Proofs.Try.prog 23 ([Value.slice a1 k2 k3]).toArray H Q :=
  Triple.of_vc cloneI.cx (by kernel_rfl) h

end Go.Vc
