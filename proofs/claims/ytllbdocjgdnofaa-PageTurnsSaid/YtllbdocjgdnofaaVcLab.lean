/- What is to be shown of each function, in its normal form. Printed by a program of this session's, checked by the kernel. -/
import Derived.Test.YtllbdocjgdnofaaVxN
import Derived.Test.YtllbdocjgdnofaaProg
set_option linter.unusedVariables false
set_option maxRecDepth 100000
namespace Go.Vc
open Go.Vx Go
def less.cx : Cx := ⟨[], [], [], []⟩
def each.cx : Cx := ⟨[1], [], [], []⟩
def each1.cx : Cx := ⟨[], [(1, [9], []), (4, [15], [])], [], []⟩
def merge.cx : Cx := ⟨[3, 4], [], [], [(9, [9])]⟩
def after.cx : Cx := ⟨[], [(2, [8], [])], [], []⟩
def refRight.cx : Cx := ⟨[], [(4, [3], [])], [], []⟩
def refMerge.cx : Cx := ⟨[], [(3, [3, 4], []), (6, [3, 5], [])], [], []⟩
def farS.cx : Cx := ⟨[], [(2, [3], [])], [], []⟩

theorem less.vc (s1 : ByteArray) (s2 : ByteArray) (H : PHeap) (Q : Value → PHeap → Prop)
    (h : Q (Value.bool (lessS s1 s2)) H) :
    Triple Go.Proofs.Try.prog 22 ([Value.string s1, Value.string s2]).toArray H Q :=
  Triple.of_vc less.cx (by kernel_rfl) h

theorem each.vc (a1 : Option Addr) (k2 : Nat) (k3 : Nat) (H : PHeap) (Q : Value → PHeap → Prop)
    (h : ∀ (k4 : Nat), H k4 = none → Q (Value.func (Fn.func 58) #[] #[Value.pointer (at0 k4)]) (H.upd k4 (Obj.cells #[Value.slice a1 k2 k3] 22))) :
    Triple Go.Proofs.Try.prog 48 ([Value.slice a1 k2 k3]).toArray H Q :=
  Triple.of_vc each.cx (by kernel_rfl) h

theorem each1.vc (v1 : Value) (a2 : Option Addr) (H : PHeap) (Q : Value → PHeap → Prop)
    (h : ∃ a3 k4 k5,
  Reads H a2 [Value.slice a3 k4 k5] ∧
    ∃ (R6 : Rl) (M7 : Mu),
      R6 [Value.int IntKind.i64 0] H ∧
        ∀ (n8 : Int) (H9 : PHeap),
        R6 [Value.int IntKind.i64 n8] H9 →
        (decide (n8 < (↑k4 : Int)) = true →
        Ob (a3 ≠ none ∧ 0 ≤ n8 ∧ n8 < (↑k4 : Int)) ∧
        ∃ a10 k11 k12,
        Reads H9 (elemA a3 n8 1) [Value.slice a10 k11 k12] ∧
        ∃ (R13 : Rl) (M14 : Mu),
        R13 [Value.int IntKind.i64 0] H9 ∧
        ∀ (n15 : Int) (H16 : PHeap),
        R13 [Value.int IntKind.i64 n15] H16 →
        (decide (n15 < (↑k11 : Int)) = true →
        Ob (a10 ≠ none ∧ 0 ≤ n15 ∧ n15 < (↑k11 : Int)) ∧
        ∃ s17,
        Reads H16 (elemA a10 n15 1) [Value.string s17] ∧
        CallY Proofs.Try.prog v1 #[Value.string s17] H16 fun v18 H19 =>
        ∃ b20,
        v18 = Value.bool b20 ∧
        ((!b20) = true → Q (Value.tuple #[]) H19) ∧
        ((!b20) = false →
        R13 [Value.int IntKind.i64 (IntKind.i64.wrap (n15 + 1))] H19 ∧
        Less (M14 [Value.int IntKind.i64 (IntKind.i64.wrap (n15 + 1))] H19) (M14 [Value.int IntKind.i64 n15] H16))) ∧
        (decide (n15 < (↑k11 : Int)) = false →
        R6 [Value.int IntKind.i64 (IntKind.i64.wrap (n8 + 1))] H16 ∧ Less (M7 [Value.int IntKind.i64 (IntKind.i64.wrap (n8 + 1))] H16) (M7 [Value.int IntKind.i64 n8] H9))) ∧
        (decide (n8 < (↑k4 : Int)) = false → Q (Value.tuple #[]) H9)) :
    Triple Go.Proofs.Try.prog 58 ([v1, Value.pointer a2]).toArray H Q :=
  Triple.of_vc each1.cx (by kernel_rfl) h

theorem merge.vc (a1 : Option Addr) (k2 : Nat) (k3 : Nat) (H : PHeap) (Q : Value → PHeap → Prop)
    (h : EvV Proofs.Try.prog (Instr.makeMap 78 none) H fun v4 H5 =>
  ∃ a6,
    v4 = Value.map a6 ∧
      ∀ (k7 : Nat),
        H5 k7 = none →
        ∃ H8,
        Writes (H5.upd k7 (Obj.cells #[Value.map none] 78)) H8 (at0 k7) [Value.map a6] ∧
        ∀ (k9 : Nat),
        H8 k9 = none →
        Triple Proofs.Try.prog 48 #[Value.slice a1 k2 k3] (H8.upd k9 (Obj.cells #[Value.slice none 0 0] 24)) fun v10 H11 =>
        ∃ v12,
        v10 = v12 ∧
        ∃ (x13 : _) (J14 : (Nat → PHeap → Prop)) (J15 : (Nat → PHeap → Prop)) (H16 : _),
        Vx.Sub H16 H11 ∧
        IterOk Proofs.Try.prog v12 H16 x13 ∧
        FitAll [Value.string { data := #[] }] x13 ∧
        (∀ (k17 : Nat) (H18 : PHeap), J14 k17 H18 → Vx.Sub H16 H18) ∧
        J14 0 H11 ∧
        (∀ (s19 : ByteArray) (k20 : Nat) (H21 : PHeap),
        Nth x13 k20 [Value.string s19] →
        J14 k20 H21 →
        ∃ a22,
        Reads H21 (at0 k7) [Value.map a22] ∧
        LookV Proofs.Try.prog (Instr.lookup 78 (Value.map a22) (Value.string s19) false) H21 fun v23 =>
        ∃ n24,
        v23 = Value.int IntKind.i64 n24 ∧
        EvU Proofs.Try.prog (Instr.mapUpdate 78 (Value.map a22) (Value.string s19) (Value.int IntKind.i64 (IntKind.i64.wrap (n24 + 1)))) H21 fun H25 =>
        ∃ a26,
        Reads H25 (at0 k7) [Value.map a26] ∧
        LookV Proofs.Try.prog (Instr.lookup 78 (Value.map a26) (Value.string s19) false) H25 fun v27 =>
        ∃ n28,
        v27 = Value.int IntKind.i64 n28 ∧
        ((n28 == 1) = true →
        ∃ a29 k30 k31,
        Reads H25 (at0 k9) [Value.slice a29 k30 k31] ∧
        ∀ (k32 : Nat),
        H25 k32 = none →
        EvV Proofs.Try.prog
        (Builtin.append_ #[24, 24] 24 #[Value.slice a29 k30 k31, Value.slice (at0 k32) 1 1])
        (H25.upd k32 (Obj.cells #[Value.string s19] 9)) fun v33 H34 =>
        ∃ a35 k36 k37,
        v33 = Value.slice a35 k36 k37 ∧
        ∃ H38, Writes H34 H38 (at0 k9) [Value.slice a35 k36 k37] ∧ J14 (k20 + 1) H38) ∧
        ((n28 == 1) = false → J14 (k20 + 1) H25)) ∧
        (∀ (H39 : PHeap),
        J14 x13.length H39 →
        ∃ a40 k41 k42,
        Reads H39 (at0 k9) [Value.slice a40 k41 k42] ∧
        Triple Proofs.Try.prog 49 #[Value.slice a40 k41 k42] H39 fun v43 H44 =>
        v43 = Value.tuple #[] ∧ ∃ a45 k46 k47, Reads H44 (at0 k9) [Value.slice a45 k46 k47] ∧ Q (Value.slice a45 k46 k47) H44) ∧
        True ∧ True) :
    Triple Go.Proofs.Try.prog 32 ([Value.slice a1 k2 k3]).toArray H Q :=
  Triple.of_vc merge.cx (by kernel_rfl) h

theorem after.vc (a1 : Option Addr) (k2 : Nat) (k3 : Nat) (s4 : ByteArray) (n5 : Int) (H : PHeap) (Q : Value → PHeap → Prop)
    (h : ∃ (R6 : Rl) (M7 : Mu),
  R6 [Value.int IntKind.i64 0] H ∧
    ∀ (n8 : Int) (H9 : PHeap),
      R6 [Value.int IntKind.i64 n8] H9 →
        (decide (n8 < (↑k2 : Int)) = true →
        Ob (a1 ≠ none ∧ 0 ≤ n8 ∧ n8 < (↑k2 : Int)) ∧
        ∃ s10,
        Reads H9 (elemA a1 n8 1) [Value.string s10] ∧
        Triple Proofs.Try.prog 22 #[Value.string s4, Value.string s10] H9 fun v11 H12 =>
        ∃ b13,
        v11 = Value.bool b13 ∧
        ((!b13) = true →
        R6 [Value.int IntKind.i64 (IntKind.i64.wrap (n8 + 1))] H12 ∧ Less (M7 [Value.int IntKind.i64 (IntKind.i64.wrap (n8 + 1))] H12) (M7 [Value.int IntKind.i64 n8] H9)) ∧
        ((!b13) = false →
        Ob (0 ≤ n8 ∧ n8 ≤ (↑k2 : Int) ∧ (↑k2 : Int) ≤ (↑k3 : Int)) ∧
        ∀ (k14 : Nat),
        H12 k14 = none →
        Ob ((0 : Int) ≤ 0 ∧ 0 ≤ minI (maxI n5 0) (↑((↑k2 : Int).toNat - n8.toNat) : Int) ∧ minI (maxI n5 0) (↑((↑k2 : Int).toNat - n8.toNat) : Int) ≤ (↑(k3 - n8.toNat) : Int)) ∧
        EvV Proofs.Try.prog
        (Builtin.append_ #[24, 24] 24
        #[Value.slice (at0 k14) 0 0,
        Value.slice (slA (slA a1 n8 k3 1) 0 (k3 - n8.toNat) 1) ((minI (maxI n5 0) (↑((↑k2 : Int).toNat - n8.toNat) : Int)).toNat - Int.toNat 0)
        (k3 - n8.toNat - Int.toNat 0)])
        (H12.upd k14 (Obj.cells #[] 9)) fun v15 H16 =>
        ∃ a17 k18 k19,
        v15 = Value.slice a17 k18 k19 ∧
        Q (Value.tuple #[Value.slice a17 k18 k19, Value.bool (minI (maxI n5 0) (↑((↑k2 : Int).toNat - n8.toNat) : Int) == (↑((↑k2 : Int).toNat - n8.toNat) : Int))])
        H16)) ∧
        (decide (n8 < (↑k2 : Int)) = !true →
        Ob (0 ≤ n8 ∧ n8 ≤ (↑k2 : Int) ∧ (↑k2 : Int) ≤ (↑k3 : Int)) ∧
        ∀ (k20 : Nat),
        H9 k20 = none →
        Ob ((0 : Int) ≤ 0 ∧ 0 ≤ minI (maxI n5 0) (↑((↑k2 : Int).toNat - n8.toNat) : Int) ∧ minI (maxI n5 0) (↑((↑k2 : Int).toNat - n8.toNat) : Int) ≤ (↑(k3 - n8.toNat) : Int)) ∧
        EvV Proofs.Try.prog
        (Builtin.append_ #[24, 24] 24
        #[Value.slice (at0 k20) 0 0,
        Value.slice (slA (slA a1 n8 k3 1) 0 (k3 - n8.toNat) 1) ((minI (maxI n5 0) (↑((↑k2 : Int).toNat - n8.toNat) : Int)).toNat - Int.toNat 0) (k3 - n8.toNat - Int.toNat 0)])
        (H9.upd k20 (Obj.cells #[] 9)) fun v21 H22 =>
        ∃ a23 k24 k25,
        v21 = Value.slice a23 k24 k25 ∧
        Q (Value.tuple #[Value.slice a23 k24 k25, Value.bool (minI (maxI n5 0) (↑((↑k2 : Int).toNat - n8.toNat) : Int) == (↑((↑k2 : Int).toNat - n8.toNat) : Int))]) H22)) :
    Triple Go.Proofs.Try.prog 10 ([Value.slice a1 k2 k3, Value.string s4, Value.int IntKind.i64 n5]).toArray H Q :=
  Triple.of_vc after.cx (by kernel_rfl) h

theorem refRight.vc (s1 : ByteArray) (H : PHeap) (Q : Value → PHeap → Prop)
    (h : ((bif decide ((↑s1.size : Int) < 1) then true else decide ((↑s1.size : Int) > 16)) = true → Q (Value.bool false) H) ∧
  ((bif decide ((↑s1.size : Int) < 1) then true else decide ((↑s1.size : Int) > 16)) = false →
    ∃ (R2 : Rl) (M3 : Mu),
      R2 [Value.int IntKind.i64 0] H ∧
        ∀ (n4 : Int) (H5 : PHeap),
        R2 [Value.int IntKind.i64 n4] H5 →
        (decide (n4 < (↑s1.size : Int)) = true →
        Ob (0 ≤ n4 ∧ n4 < (↑s1.size : Int)) ∧
        ((bif !bif decide (IntKind.i64.wrap (byteAt s1 n4) ≥ 97) then decide (IntKind.i64.wrap (byteAt s1 n4) ≤ 122) else false then
        bif !bif decide (IntKind.i64.wrap (byteAt s1 n4) ≥ 48) then decide (IntKind.i64.wrap (byteAt s1 n4) ≤ 57) else false then
        bif IntKind.i64.wrap (byteAt s1 n4) != 45 then true else n4 == 0
        else false
        else false) =
        true →
        Q (Value.bool false) H5) ∧
        ((bif !bif decide (IntKind.i64.wrap (byteAt s1 n4) ≥ 97) then decide (IntKind.i64.wrap (byteAt s1 n4) ≤ 122) else false then
        bif !bif decide (IntKind.i64.wrap (byteAt s1 n4) ≥ 48) then decide (IntKind.i64.wrap (byteAt s1 n4) ≤ 57) else false then
        bif IntKind.i64.wrap (byteAt s1 n4) != 45 then true else n4 == 0
        else false
        else false) =
        false →
        R2 [Value.int IntKind.i64 (IntKind.i64.wrap (n4 + 1))] H5 ∧ Less (M3 [Value.int IntKind.i64 (IntKind.i64.wrap (n4 + 1))] H5) (M3 [Value.int IntKind.i64 n4] H5))) ∧
        (decide (n4 < (↑s1.size : Int)) = false → Q (Value.bool true) H5))) :
    Triple Go.Proofs.Try.prog 8 ([Value.string s1]).toArray H Q :=
  Triple.of_vc refRight.cx (by kernel_rfl) h

theorem refMerge.vc (a1 : Option Addr) (k2 : Nat) (k3 : Nat) (H : PHeap) (Q : Value → PHeap → Prop)
    (h : ∃ (R4 : Rl) (M5 : Mu),
  R4 [Value.slice none 0 0, Value.int IntKind.i64 0] H ∧
    ∀ (a6 : Option Addr) (k7 k8 : Nat) (n9 : Int) (H10 : PHeap),
      R4 [Value.slice a6 k7 k8, Value.int IntKind.i64 n9] H10 →
        (decide (n9 < (↑k2 : Int)) = true →
        ∃ (R11 : Rl) (M12 : Mu),
        R11 [Value.slice a6 k7 k8, Value.int IntKind.i64 0] H10 ∧
        ∀ (a13 : Option Addr) (k14 k15 : Nat) (n16 : Int) (H17 : PHeap),
        R11 [Value.slice a13 k14 k15, Value.int IntKind.i64 n16] H17 →
        Ob (a1 ≠ none ∧ 0 ≤ n9 ∧ n9 < (↑k2 : Int)) ∧
        ∃ a18 k19 k20,
        Reads H17 (elemA a1 n9 1) [Value.slice a18 k19 k20] ∧
        (decide (n16 < (↑k19 : Int)) = true →
        Ob (a1 ≠ none ∧ 0 ≤ n9 ∧ n9 < (↑k2 : Int)) ∧
        ∃ a21 k22 k23,
        Reads H17 (elemA a1 n9 1) [Value.slice a21 k22 k23] ∧
        Ob (a21 ≠ none ∧ 0 ≤ n16 ∧ n16 < (↑k22 : Int)) ∧
        ∃ s24,
        Reads H17 (elemA a21 n16 1) [Value.string s24] ∧
        Triple Proofs.Try.prog 9 #[Value.slice a13 k14 k15, Value.string s24] H17 fun v25 H26 =>
        ∃ a27 k28 k29,
        v25 = Value.slice a27 k28 k29 ∧
        R11 [Value.slice a27 k28 k29, Value.int IntKind.i64 (IntKind.i64.wrap (n16 + 1))] H26 ∧
        Less (M12 [Value.slice a27 k28 k29, Value.int IntKind.i64 (IntKind.i64.wrap (n16 + 1))] H26)
        (M12 [Value.slice a13 k14 k15, Value.int IntKind.i64 n16] H17)) ∧
        (decide (n16 < (↑k19 : Int)) = false →
        R4 [Value.slice a13 k14 k15, Value.int IntKind.i64 (IntKind.i64.wrap (n9 + 1))] H17 ∧
        Less (M5 [Value.slice a13 k14 k15, Value.int IntKind.i64 (IntKind.i64.wrap (n9 + 1))] H17) (M5 [Value.slice a6 k7 k8, Value.int IntKind.i64 n9] H10))) ∧
        (decide (n9 < (↑k2 : Int)) = false → Q (Value.slice a6 k7 k8) H10)) :
    Triple Go.Proofs.Try.prog 7 ([Value.slice a1 k2 k3]).toArray H Q :=
  Triple.of_vc refMerge.cx (by kernel_rfl) h

theorem farS.vc (a1 : Option Addr) (k2 : Nat) (k3 : Nat) (H : PHeap) (Q : Value → PHeap → Prop)
    (h : ∃ (R4 : Rl) (M5 : Mu),
  R4 [Value.int IntKind.i64 0] H ∧
    ∀ (n6 : Int) (H7 : PHeap),
      R4 [Value.int IntKind.i64 n6] H7 →
        ((bif decide (n6 < (↑k2 : Int)) then decide (n6 < 100) else false) = true →
        Ob (a1 ≠ none ∧ 0 ≤ n6 ∧ n6 < (↑k2 : Int)) ∧
        ∃ s8,
        Reads H7 (elemA a1 n6 1) [Value.string s8] ∧
        (decide ((↑s8.size : Int) > 40) = true → Q (Value.bool true) H7) ∧
        (decide ((↑s8.size : Int) > 40) = false →
        R4 [Value.int IntKind.i64 (IntKind.i64.wrap (n6 + 1))] H7 ∧ Less (M5 [Value.int IntKind.i64 (IntKind.i64.wrap (n6 + 1))] H7) (M5 [Value.int IntKind.i64 n6] H7))) ∧
        ((bif decide (n6 < (↑k2 : Int)) then decide (n6 < 100) else false) = false → Q (Value.bool (decide ((↑k2 : Int) > 60))) H7)) :
    Triple Go.Proofs.Try.prog 6 ([Value.slice a1 k2 k3]).toArray H Q :=
  Triple.of_vc farS.cx (by kernel_rfl) h

end Go.Vc
