/- What is to be shown of each function, in its normal form.  · Heaps of numbers in a list, and numbers that rise, in plain words. · The contracts of a heap of numbers: its methods, and what goes up and down in it. · The contracts of numbers that rise, but some: by the heap, and by the reference. · What is to be shown of each function, in its normal form.  -/
import Derived.Test.YtajkbeifgghpmaaGreatProg
import Derived.KernelRfl
import Derived.Test.YtajkbeifgghpmaaGreatCPk09
set_option linter.unusedVariables false
set_option maxRecDepth 100000
namespace Go.Vc
open Go.Vx Go Go.Proofs.Tryz
def rest.cx : Cx := ⟨[12], [(3, [15], []), (9, [8], [])], [], []⟩
def some.cx : Cx := ⟨[], [], [], []⟩
def hPush.cx : Cx := ⟨[], [], [], []⟩
def hPop.cx : Cx := ⟨[], [], [], []⟩
def hUp.cx : Cx := ⟨[], [(0, [1], [])], [], []⟩
def hDown.cx : Cx := ⟨[], [(2, [7], [])], [], []⟩
def nLen.cx : Cx := ⟨[], [], [], []⟩
def nLess.cx : Cx := ⟨[], [], [], []⟩
def nPop.cx : Cx := ⟨[], [], [], []⟩
def nPush.cx : Cx := ⟨[], [], [], []⟩
def nSwap.cx : Cx := ⟨[], [], [], []⟩
def refRest.cx : Cx := ⟨[], [(3, [5, 6], []), (7, [7], [])], [], []⟩
def refHasD.cx : Cx := ⟨[], [(2, [5], [])], [], []⟩
theorem rest.vc (a1 : Option Addr) (k2 k3 : Nat) (a4 : Option Addr) (k5 k6 : Nat) (H : PHeap) (Q : Value -> PHeap -> Prop)
 (h : ∀ (k7 : Nat), H k7 = none -> ∀ (k8 : Nat), H.upd k7 (Obj.cells #[] 3) k8 = none -> ∃ (R9 : Rl) (M10 : Mu), R9 [iw 0] ((H.upd k7 (Obj.cells #[] 3)).upd k8 (Obj.cells #[sw (at0 k7) 0 0] 139)) /\
 ∀ (n11 : Int) (H12 : PHeap), R9 [iw n11] H12 -> (decide (n11 < (k2 : Int)) = true -> Ob (a1 ≠ none /\ 0 ≤ n11 /\ n11 < (k2 : Int)) /\ ∃ n13, Reads H12 (elemA a1 n11 1) [iw n13] /\
 Triple prog 59 #[sw a4 k5 k6, iw n13] H12 fun v14 H15 => ∃ b16, v14 = .bool b16 /\ ((!b16) = true -> Triple prog 101 #[Value.iface 138 (.pointer (at0 k8)), Value.iface 3 (iw n13)] H15 fun v17 H18 => v17 = .tuple #[] /\
 R9 [iw (IntKind.i64.wrap (n11 + 1))] H18 /\ Less (M10 [iw (IntKind.i64.wrap (n11 + 1))] H18) (M10 [iw n11] H12)) /\ ((!b16) = false -> R9 [iw (IntKind.i64.wrap (n11 + 1))] H15 /\
 Less (M10 [iw (IntKind.i64.wrap (n11 + 1))] H15) (M10 [iw n11] H12))) /\ (decide (n11 < (k2 : Int)) = false -> ∃ (R19 : Rl) (M20 : Mu), R19 [sw none 0 0] H12 /\ ∀ (a21 : Option Addr) (k22 k23 : Nat) (H24 : PHeap),
 R19 [sw a21 k22 k23] H24 -> Triple prog 102 #[Value.iface 138 (.pointer (at0 k8))] H24 fun v25 H26 => ∃ b27, v25 = .bool b27 /\ (b27 = true -> Ob (at0 k8 ≠ none) /\ ∃ a28 k29 k30, Reads H26 (at0 k8) [sw a28 k29 k30] /\
 Ob (a28 ≠ none /\ (0 : Int) ≤ 0 /\ 0 < (k29 : Int)) /\ ∃ n31, Reads H26 (elemA a28 0 1) [iw n31] /\ Triple prog 103 #[Value.iface 138 (.pointer (at0 k8))] H26 fun v32 H33 => ∃ v34, v32 = v34 /\
 (((k22 : Int) == 0) = false -> Ob (a21 ≠ none /\ 0 ≤ IntKind.i64.wrap ((k22 : Int) - 1) /\ IntKind.i64.wrap ((k22 : Int) - 1) < (k22 : Int)) /\ ∃ n35,
 Reads H33 (elemA a21 (IntKind.i64.wrap ((k22 : Int) - 1)) 1) [iw n35] /\ ((n35 != n31) = true -> ∀ (k36 : Nat), H33 k36 = none -> EvV prog (Builtin.append_ #[42, 42] 42 #[sw a21 k22 k23, sw (at0 k36) 1 1])
 (H33.upd k36 (Obj.cells #[iw n31] 3)) fun v37 H38 => ∃ a39 k40 k41, v37 = sw a39 k40 k41 /\ R19 [sw a39 k40 k41] H38 /\ Less (M20 [sw a39 k40 k41] H38) (M20 [sw a21 k22 k23] H24)) /\ ((n35 != n31) = false ->
 R19 [sw a21 k22 k23] H33 /\ Less (M20 [sw a21 k22 k23] H33) (M20 [sw a21 k22 k23] H24))) /\ (((k22 : Int) == 0) = !false -> ∀ (k42 : Nat), H33 k42 = none ->
 EvV prog (Builtin.append_ #[42, 42] 42 #[sw a21 k22 k23, sw (at0 k42) 1 1]) (H33.upd k42 (Obj.cells #[iw n31] 3)) fun v43 H44 => ∃ a45 k46 k47, v43 = sw a45 k46 k47 /\
 R19 [sw a45 k46 k47] H44 /\ Less (M20 [sw a45 k46 k47] H44) (M20 [sw a21 k22 k23] H24))) /\ (b27 = false -> Q (sw a21 k22 k23) H26))) : Triple prog 61 ([sw a1 k2 k3, sw a4 k5 k6]).toArray H Q :=
 Triple.of_vc rest.cx (by kernel_rfl) h
theorem some.vc (v1 : Value) (H : PHeap) (Q : Value -> PHeap -> Prop)
 (h : CallI prog v1 "Len" #[] H fun v2 H3 => ∃ n4, v2 = iw n4 /\ Q (.bool (decide (n4 > 0))) H3) : Triple prog 102 ([v1]).toArray H Q := Triple.of_vc some.cx (by kernel_rfl) h
theorem hPush.vc (v1 : Value) (v2 : Value) (H : PHeap) (Q : Value -> PHeap -> Prop)
 (h : CallI prog v1 "Push" #[v2] H fun v3 H4 => v3 = .tuple #[] /\ CallI prog v1 "Len" #[] H4 fun v5 H6 =>
 ∃ n7, v5 = iw n7 /\ Triple prog 141 #[v1, iw (IntKind.i64.wrap (n7 - 1))] H6 fun v8 H9 => v8 = .tuple #[] /\ Q (.tuple #[]) H9) : Triple prog 101 ([v1, v2]).toArray H Q := Triple.of_vc hPush.cx (by kernel_rfl) h
theorem hPop.vc (v1 : Value) (H : PHeap) (Q : Value -> PHeap -> Prop)
 (h : CallI prog v1 "Len" #[] H fun v2 H3 => ∃ n4, v2 = iw n4 /\ CallI prog v1 "Swap" #[iw 0, iw (IntKind.i64.wrap (n4 - 1))] H3 fun v5 H6 => v5 = .tuple #[] /\
 Triple prog 142 #[v1, iw 0, iw (IntKind.i64.wrap (n4 - 1))] H6 fun v7 H8 => ∃ b9, v7 = .bool b9 /\ CallI prog v1 "Pop" #[] H8 fun v10 H11 => ∃ v12, v10 = v12 /\ Q v12 H11) : Triple prog 103 ([v1]).toArray H Q :=
 Triple.of_vc hPop.cx (by kernel_rfl) h
theorem hUp.vc (v1 : Value) (n2 : Int) (H : PHeap) (Q : Value -> PHeap -> Prop)
 (h : ∃ (R3 : Rl) (M4 : Mu), R3 [iw n2] H /\ ∀ (n5 : Int) (H6 : PHeap), R3 [iw n5] H6 -> Ob ((2 : Int) ≠ 0) /\ ((IntKind.i64.wrap ((IntKind.i64.wrap (n5 - 1)).tdiv 2) == n5) = false ->
 CallI prog v1 "Less" #[iw n5, iw (IntKind.i64.wrap ((IntKind.i64.wrap (n5 - 1)).tdiv 2))] H6 fun v7 H8 => ∃ b9, v7 = .bool b9 /\ ((!b9) = true -> Q (.tuple #[]) H8) /\ ((!b9) = false ->
 CallI prog v1 "Swap" #[iw (IntKind.i64.wrap ((IntKind.i64.wrap (n5 - 1)).tdiv 2)), iw n5] H8 fun v10 H11 => v10 = .tuple #[] /\ R3 [iw (IntKind.i64.wrap ((IntKind.i64.wrap (n5 - 1)).tdiv 2))] H11 /\
 Less (M4 [iw (IntKind.i64.wrap ((IntKind.i64.wrap (n5 - 1)).tdiv 2))] H11) (M4 [iw n5] H6))) /\ ((IntKind.i64.wrap ((IntKind.i64.wrap (n5 - 1)).tdiv 2) == n5) = !false -> Q (.tuple #[]) H6)) :
 Triple prog 141 ([v1, iw n2]).toArray H Q := Triple.of_vc hUp.cx (by kernel_rfl) h
theorem hDown.vc (v1 : Value) (n2 n3 : Int) (H : PHeap) (Q : Value -> PHeap -> Prop)
 (h : ∃ (R4 : Rl) (M5 : Mu), R4 [iw n2] H /\ ∀ (n6 : Int) (H7 : PHeap), R4 [iw n6] H7 ->
 ((bif decide (IntKind.i64.wrap (IntKind.i64.wrap (2 * n6) + 1) ≥ n3) then true else decide (IntKind.i64.wrap (IntKind.i64.wrap (2 * n6) + 1) < 0)) = true -> Q (.bool (decide (n6 > n2))) H7) /\
 ((bif decide (IntKind.i64.wrap (IntKind.i64.wrap (2 * n6) + 1) ≥ n3) then true else decide (IntKind.i64.wrap (IntKind.i64.wrap (2 * n6) + 1) < 0)) = false ->
 (decide (IntKind.i64.wrap (IntKind.i64.wrap (IntKind.i64.wrap (2 * n6) + 1) + 1) < n3) = true -> CallI prog v1 "Less"
 #[iw (IntKind.i64.wrap (IntKind.i64.wrap (IntKind.i64.wrap (2 * n6) + 1) + 1)), iw (IntKind.i64.wrap (IntKind.i64.wrap (2 * n6) + 1))] H7 fun v8 H9 => ∃ b10, v8 = .bool b10 /\ CallI prog v1 "Less"
 #[iw (bif b10 then IntKind.i64.wrap (IntKind.i64.wrap (IntKind.i64.wrap (2 * n6) + 1) + 1) else IntKind.i64.wrap (IntKind.i64.wrap (2 * n6) + 1)), iw n6] H9 fun v11 H12 => ∃ b13, v11 = .bool b13 /\
 ((!b13) = true -> Q (.bool (decide (n6 > n2))) H12) /\ ((!b13) = false -> CallI prog v1 "Swap" #[iw n6,
 iw (bif b10 then IntKind.i64.wrap (IntKind.i64.wrap (IntKind.i64.wrap (2 * n6) + 1) + 1) else IntKind.i64.wrap (IntKind.i64.wrap (2 * n6) + 1))] H12 fun v14 H15 => v14 = .tuple #[] /\ R4 [Value.int IntKind.i64
 (bif b10 then IntKind.i64.wrap (IntKind.i64.wrap (IntKind.i64.wrap (2 * n6) + 1) + 1) else IntKind.i64.wrap (IntKind.i64.wrap (2 * n6) + 1))] H15 /\ Less (M5 [Value.int IntKind.i64
 (bif b10 then IntKind.i64.wrap (IntKind.i64.wrap (IntKind.i64.wrap (2 * n6) + 1) + 1) else IntKind.i64.wrap (IntKind.i64.wrap (2 * n6) + 1))] H15) (M5 [iw n6] H7))) /\
 (decide (IntKind.i64.wrap (IntKind.i64.wrap (IntKind.i64.wrap (2 * n6) + 1) + 1) < n3) = !true -> CallI prog v1 "Less" #[iw (IntKind.i64.wrap (IntKind.i64.wrap (2 * n6) + 1)), iw n6] H7 fun v16 H17 => ∃ b18,
 v16 = .bool b18 /\ ((!b18) = true -> Q (.bool (decide (n6 > n2))) H17) /\ ((!b18) = false -> CallI prog v1 "Swap" #[iw n6, iw (IntKind.i64.wrap (IntKind.i64.wrap (2 * n6) + 1))] H17 fun v19 H20 => v19 = .tuple #[] /\
 R4 [iw (IntKind.i64.wrap (IntKind.i64.wrap (2 * n6) + 1))] H20 /\ Less (M5 [iw (IntKind.i64.wrap (IntKind.i64.wrap (2 * n6) + 1))] H20) (M5 [iw n6] H7))))) : Triple prog 142 ([v1, iw n2, iw n3]).toArray H Q :=
 Triple.of_vc hDown.cx (by kernel_rfl) h
theorem nLen.vc (a1 : Option Addr) (k2 k3 : Nat) (H : PHeap) (Q : Value -> PHeap -> Prop)
 (h : Q (iw (k2 : Int)) H) : Triple prog 220 ([sw a1 k2 k3]).toArray H Q := Triple.of_vc nLen.cx (by kernel_rfl) h
theorem nLess.vc (a1 : Option Addr) (k2 k3 : Nat) (n4 n5 : Int) (H : PHeap) (Q : Value -> PHeap -> Prop)
 (h : ∃ H6, Vx.Sub H6 H /\ Ob (a1 ≠ none /\ 0 ≤ n4 /\ n4 < (k2 : Int)) /\ ∃ n7, Reads H6 (elemA a1 n4 1) [iw n7] /\
 Ob (a1 ≠ none /\ 0 ≤ n5 /\ n5 < (k2 : Int)) /\ ∃ n8, Reads H6 (elemA a1 n5 1) [iw n8] /\ Q (.bool (decide (n7 < n8))) H) : Triple prog 221 ([sw a1 k2 k3, iw n4, iw n5]).toArray H Q :=
 Triple.of_vc nLess.cx (by kernel_rfl) h
theorem nPop.vc (a1 : Option Addr) (H : PHeap) (Q : Value -> PHeap -> Prop)
 (h : Ob (a1 ≠ none) /\ ∃ a2 k3 k4, Reads H a1 [sw a2 k3 k4] /\ Ob (a1 ≠ none) /\ ∃ a5 k6 k7, Reads H a1 [sw a5 k6 k7] /\
 Ob (a5 ≠ none /\ 0 ≤ IntKind.i64.wrap ((k3 : Int) - 1) /\ IntKind.i64.wrap ((k3 : Int) - 1) < (k6 : Int)) /\ ∃ n8, Reads H (elemA a5 (IntKind.i64.wrap ((k3 : Int) - 1)) 1) [iw n8] /\ Ob (a1 ≠ none) /\ ∃ a9 k10 k11,
 Reads H a1 [sw a9 k10 k11] /\ Ob ((0 : Int) ≤ 0 /\ 0 ≤ IntKind.i64.wrap ((k3 : Int) - 1) /\ IntKind.i64.wrap ((k3 : Int) - 1) ≤ (k11 : Int)) /\ Ob (a1 ≠ none) /\ ∃ H12,
 Writes H H12 a1 [sw (slA a9 0 k11 1) ((IntKind.i64.wrap ((k3 : Int) - 1)).toNat - Int.toNat 0) (k11 - Int.toNat 0)] /\ Q (Value.iface 3 (iw n8)) H12) : Triple prog 222 ([.pointer a1]).toArray H Q :=
 Triple.of_vc nPop.cx (by kernel_rfl) h
theorem nPush.vc (a1 : Option Addr) (v2 : Value) (H : PHeap) (Q : Value -> PHeap -> Prop)
 (h : EvV prog (Instr.typeAssert v2 20 3 true) H fun v3 H4 => ∃ n5 b6, v3 = .tuple #[iw n5, .bool b6] /\ (b6 = true -> Ob (a1 ≠ none) /\ ∃ a7 k8 k9, Reads H4 a1 [sw a7 k8 k9] /\ ∀ (k10 : Nat), H4 k10 = none ->
 EvV prog (Builtin.append_ #[139, 139] 139 #[sw a7 k8 k9, sw (at0 k10) 1 1]) (H4.upd k10 (Obj.cells #[iw n5] 3)) fun v11 H12 =>
 ∃ a13 k14 k15, v11 = sw a13 k14 k15 /\ Ob (a1 ≠ none) /\ ∃ H16, Writes H12 H16 a1 [sw a13 k14 k15] /\ Q (.tuple #[]) H16) /\ (b6 = false -> Q (.tuple #[]) H4)) : Triple prog 223 ([.pointer a1, v2]).toArray H Q :=
 Triple.of_vc nPush.cx (by kernel_rfl) h
theorem nSwap.vc (a1 : Option Addr) (k2 k3 : Nat) (n4 n5 : Int) (H : PHeap) (Q : Value -> PHeap -> Prop)
 (h : ∃ H6, Vx.Sub H6 H /\ Ob (a1 ≠ none /\ 0 ≤ n5 /\ n5 < (k2 : Int)) /\ ∃ n7, Reads H6 (elemA a1 n5 1) [iw n7] /\ Ob (a1 ≠ none /\ 0 ≤ n4 /\ n4 < (k2 : Int)) /\ ∃ n8, Reads H6 (elemA a1 n4 1) [iw n8] /\
 Ob (a1 ≠ none /\ 0 ≤ n4 /\ n4 < (k2 : Int)) /\ ∃ H9, Writes H H9 (elemA a1 n4 1) [iw n7] /\ Ob (a1 ≠ none /\ 0 ≤ n5 /\ n5 < (k2 : Int)) /\ ∃ H10, Writes H9 H10 (elemA a1 n5 1) [iw n8] /\ Q (.tuple #[]) H10) :
 Triple prog 224 ([sw a1 k2 k3, iw n4, iw n5]).toArray H Q := Triple.of_vc nSwap.cx (by kernel_rfl) h
theorem refRest.vc (a1 : Option Addr) (k2 k3 : Nat) (a4 : Option Addr) (k5 k6 : Nat) (H : PHeap) (Q : Value -> PHeap -> Prop)
 (h : ∃ (R7 : Rl) (M8 : Mu), R7 [sw none 0 0, iw 0] H /\ ∀ (a9 : Option Addr) (k10 k11 : Nat) (n12 : Int) (H13 : PHeap), R7 [sw a9 k10 k11, iw n12] H13 -> (decide (n12 < (k2 : Int)) = true ->
 Ob (a1 ≠ none /\ 0 ≤ n12 /\ n12 < (k2 : Int)) /\ ∃ n14, Reads H13 (elemA a1 n12 1) [iw n14] /\ Triple prog 47 #[sw a4 k5 k6, iw n14] H13 fun v15 H16 => ∃ b17, v15 = .bool b17 /\ (b17 = false ->
 Ob (a1 ≠ none /\ 0 ≤ n12 /\ n12 < (k2 : Int)) /\ ∃ n18, Reads H16 (elemA a1 n12 1) [iw n18] /\ Triple prog 47 #[sw a9 k10 k11, iw n18] H16 fun v19 H20 => ∃ b21, v19 = .bool b21 /\ (b21 = true ->
 R7 [sw a9 k10 k11, iw (IntKind.i64.wrap (n12 + 1))] H20 /\ Less (M8 [sw a9 k10 k11, iw (IntKind.i64.wrap (n12 + 1))] H20) (M8 [sw a9 k10 k11, iw n12] H13)) /\ (b21 = false -> ∃ (R22 : Rl) (M23 : Mu), R22 [iw 0] H20 /\
 ∀ (n24 : Int) (H25 : PHeap), R22 [iw n24] H25 -> ∃ H26, Vx.Sub H26 H25 /\ (decide (n24 < (k10 : Int)) = true -> Ob (a9 ≠ none /\ 0 ≤ n24 /\ n24 < (k10 : Int)) /\ ∃ n27, Reads H26 (elemA a9 n24 1) [iw n27] /\
 Ob (a1 ≠ none /\ 0 ≤ n12 /\ n12 < (k2 : Int)) /\ ∃ n28, Reads H26 (elemA a1 n12 1) [iw n28] /\ (decide (n27 < n28) = true -> R22 [iw (IntKind.i64.wrap (n24 + 1))] H25 /\
 Less (M23 [iw (IntKind.i64.wrap (n24 + 1))] H25) (M23 [iw n24] H25)) /\ (decide (n27 < n28) = false -> ∃ H29, Vx.Sub H29 H25 /\ Ob (a1 ≠ none /\ 0 ≤ n12 /\ n12 < (k2 : Int)) /\ ∃ n30,
 Reads H29 (elemA a1 n12 1) [iw n30] /\ Ob (0 ≤ n24 /\ n24 ≤ (k10 : Int) /\ (k10 : Int) ≤ (k11 : Int)) /\ ∀ (k31 : Nat), H25 k31 = none -> EvV prog (Builtin.append_ #[42, 42] 42 #[sw (at0 k31) 1 1,
 sw (slA a9 n24 k11 1) ((k10 : Int).toNat - n24.toNat) (k11 - n24.toNat)]) (H25.upd k31 (Obj.cells #[iw n30] 3)) fun v32 H33 => ∃ a34 k35 k36, v32 = sw a34 k35 k36 /\ ∀ (k37 : Nat), H33 k37 = none ->
 Ob ((0 : Int) ≤ 0 /\ 0 ≤ n24 /\ n24 ≤ (k11 : Int)) /\ EvV prog (Builtin.append_ #[42, 42] 42 #[sw (at0 k37) 0 0, sw (slA a9 0 k11 1) (n24.toNat - Int.toNat 0) (k11 - Int.toNat 0)])
 (H33.upd k37 (Obj.cells #[] 3)) fun v38 H39 => ∃ a40 k41 k42, v38 = sw a40 k41 k42 /\ EvV prog (Builtin.append_ #[42, 42] 42 #[sw a40 k41 k42, sw a34 k35 k36]) H39 fun v43 H44 => ∃ a45 k46 k47, v43 = sw a45 k46 k47 /\
 R7 [sw a45 k46 k47, iw (IntKind.i64.wrap (n12 + 1))] H44 /\ Less (M8 [sw a45 k46 k47, iw (IntKind.i64.wrap (n12 + 1))] H44) (M8 [sw a9 k10 k11, iw n12] H13))) /\ (decide (n24 < (k10 : Int)) = !true -> ∃ H48,
 Vx.Sub H48 H25 /\ Ob (a1 ≠ none /\ 0 ≤ n12 /\ n12 < (k2 : Int)) /\ ∃ n49, Reads H48 (elemA a1 n12 1) [iw n49] /\ Ob (0 ≤ n24 /\ n24 ≤ (k10 : Int) /\ (k10 : Int) ≤ (k11 : Int)) /\ ∀ (k50 : Nat), H25 k50 = none ->
 EvV prog (Builtin.append_ #[42, 42] 42 #[sw (at0 k50) 1 1, sw (slA a9 n24 k11 1) ((k10 : Int).toNat - n24.toNat) (k11 - n24.toNat)]) (H25.upd k50 (Obj.cells #[iw n49] 3)) fun v51 H52 => ∃ a53 k54 k55,
 v51 = sw a53 k54 k55 /\ ∀ (k56 : Nat), H52 k56 = none -> Ob ((0 : Int) ≤ 0 /\ 0 ≤ n24 /\ n24 ≤ (k11 : Int)) /\ EvV prog (Builtin.append_ #[42, 42] 42 #[sw (at0 k56) 0 0,
 sw (slA a9 0 k11 1) (n24.toNat - Int.toNat 0) (k11 - Int.toNat 0)]) (H52.upd k56 (Obj.cells #[] 3)) fun v57 H58 => ∃ a59 k60 k61, v57 = sw a59 k60 k61 /\
 EvV prog (Builtin.append_ #[42, 42] 42 #[sw a59 k60 k61, sw a53 k54 k55]) H58 fun v62 H63 => ∃ a64 k65 k66, v62 = sw a64 k65 k66 /\ R7 [sw a64 k65 k66, iw (IntKind.i64.wrap (n12 + 1))] H63 /\
 Less (M8 [sw a64 k65 k66, iw (IntKind.i64.wrap (n12 + 1))] H63) (M8 [sw a9 k10 k11, iw n12] H13)))) /\ (b17 = !false -> R7 [sw a9 k10 k11, iw (IntKind.i64.wrap (n12 + 1))] H16 /\
 Less (M8 [sw a9 k10 k11, iw (IntKind.i64.wrap (n12 + 1))] H16) (M8 [sw a9 k10 k11, iw n12] H13))) /\ (decide (n12 < (k2 : Int)) = false -> Q (sw a9 k10 k11) H13)) :
 Triple prog 113 ([sw a1 k2 k3, sw a4 k5 k6]).toArray H Q := Triple.of_vc refRest.cx (by kernel_rfl) h
theorem refHasD.vc (a1 : Option Addr) (k2 k3 : Nat) (n4 : Int) (H : PHeap) (Q : Value -> PHeap -> Prop)
 (h : ∃ (R5 : Rl) (M6 : Mu), R5 [iw 0] H /\ ∀ (n7 : Int) (H8 : PHeap), R5 [iw n7] H8 -> (decide (n7 < (k2 : Int)) = true -> Ob (a1 ≠ none /\ 0 ≤ n7 /\ n7 < (k2 : Int)) /\ ∃ n9, Reads H8 (elemA a1 n7 1) [iw n9] /\
 ((n9 == n4) = true -> Q (.bool true) H8) /\ ((n9 == n4) = false -> R5 [iw (IntKind.i64.wrap (n7 + 1))] H8 /\ Less (M6 [iw (IntKind.i64.wrap (n7 + 1))] H8) (M6 [iw n7] H8))) /\
 (decide (n7 < (k2 : Int)) = false -> Q (.bool false) H8)) : Triple prog 47 ([sw a1 k2 k3, iw n4]).toArray H Q := Triple.of_vc refHasD.cx (by kernel_rfl) h
end Go.Vc
namespace Go.Hp
abbrev G (l : List Int) (i : Nat) : Int := l.getD i 0
theorem G_lt {l : List Int} {i : Nat} (h : i < l.length) : l[i]? = some (G l i) := by
  simp [G, List.getD_eq_getElem?_getD, List.getElem?_eq_getElem h]
theorem mem_G {l : List Int} {x : Int} : x ∈ l ↔ ∃ k, k < l.length ∧ G l k = x := by
  rw [List.mem_iff_getElem?]
  constructor
  · rintro ⟨i, hi⟩
    have hl := (List.getElem?_eq_some_iff.1 hi).1
    rw [G_lt hl] at hi
    exact ⟨i, hl, by injection hi⟩
  · rintro ⟨i, hl, hi⟩
    exact ⟨i, by rw [G_lt hl, hi]⟩
def swapL (l : List Int) (i j : Nat) : List Int := (l.set i (G l j)).set j (G l i)
theorem swap_len (l : List Int) (i j : Nat) : (swapL l i j).length = l.length := by simp [swapL]
theorem swap_get {l : List Int} {i j : Nat} (hi : i < l.length) (hj : j < l.length) (k : Nat) : G (swapL l i j) k = if k = j then G l i else if k = i then G l j else G l k := by
  unfold swapL
  simp only [G, List.getD_eq_getElem?_getD, List.getElem?_set, List.length_set]
  by_cases h1 : k = j
  · subst h1; simp [hj]
  · by_cases h2 : k = i
    · subst h2; simp [h1, Ne.symm h1, hi]
    · simp [h1, h2, Ne.symm h1, Ne.symm h2]
theorem swap_mem {l : List Int} {i j : Nat} (hi : i < l.length) (hj : j < l.length) (x : Int) : x ∈ swapL l i j ↔ x ∈ l := by
  rw [mem_G, mem_G, swap_len]
  constructor
  · rintro ⟨k, hk, rfl⟩
    rw [swap_get hi hj]
    split
    · exact ⟨i, hi, rfl⟩
    · split
      · exact ⟨j, hj, rfl⟩
      · exact ⟨k, hk, rfl⟩
  · rintro ⟨k, hk, rfl⟩
    by_cases h1 : k = j
    · exact ⟨i, hi, by rw [swap_get hi hj]; subst h1; split <;> simp_all⟩
    · by_cases h2 : k = i
      · exact ⟨j, hj, by rw [swap_get hi hj, if_pos rfl, h2]⟩
      · exact ⟨k, hk, by rw [swap_get hi hj, if_neg h1, if_neg h2]⟩
/-- A heap of the first n. -/
def Hn (l : List Int) (n : Nat) : Prop := ∀ c, 0 < c → c < n → G l ((c - 1) / 2) ≤ G l c
theorem root_least {l : List Int} {n : Nat} (h : Hn l n) : ∀ c, c < n → G l 0 ≤ G l c := by
  intro c
  induction c using Nat.strongRecOn with
  | ind c ih =>
    intro hc
    rcases Nat.eq_zero_or_pos c with rfl | h0
    · exact Int.le_refl _
    · exact Int.le_trans (ih ((c - 1) / 2) (by omega) (by omega)) (h c h0 hc)
structure Up (l : List Int) (j : Nat) : Prop where
  oth : ∀ c, 0 < c → c < l.length → c ≠ j → G l ((c - 1) / 2) ≤ G l c
  sub : ∀ c, 0 < j → 0 < c → c < l.length → (c - 1) / 2 = j → G l ((j - 1) / 2) ≤ G l c
theorem G_app {l : List Int} {x : Int} {k : Nat} (h : k < l.length) : G (l ++ [x]) k = G l k := by
  simp [G, List.getD_eq_getElem?_getD, List.getElem?_append_left h]
theorem up_push {l : List Int} {x : Int} (h : Hn l l.length) : Up (l ++ [x]) l.length := by
  refine ⟨fun c h0 hc hne => ?_, fun c _ h0 hc he => ?_⟩
  · rw [List.length_append, List.length_singleton] at hc
    rw [G_app (by omega), G_app (by omega)]
    exact h c h0 (by omega)
  · rw [List.length_append, List.length_singleton] at hc; omega
theorem up_step {l : List Int} {j : Nat} (h : Up l j) (hj : j < l.length) (h0 : 0 < j) (hlt : G l j < G l ((j - 1) / 2)) : Up (swapL l ((j - 1) / 2) j) ((j - 1) / 2) := by
  have hi : (j - 1) / 2 < l.length := by omega
  generalize hij : (j - 1) / 2 = i at *
  refine ⟨fun c c0 hc hne => ?_, fun c i0 c0 hc he => ?_⟩
  · rw [swap_len] at hc
    rw [swap_get hi hj, swap_get hi hj]
    by_cases e : c = j
    · subst e
      rw [hij]
      rw [if_neg (by omega), if_pos rfl, if_pos rfl]
      omega
    · rw [if_neg e, if_neg hne]
      have h1 := h.oth c c0 hc e
      by_cases e1 : (c - 1) / 2 = j
      · rw [if_pos e1]
        have := h.sub c h0 c0 hc e1
        rwa [hij] at this
      · rw [if_neg e1]
        by_cases e2 : (c - 1) / 2 = i
        · rw [if_pos e2]
          rw [e2] at h1; omega
        · rw [if_neg e2]; exact h1
  · rw [swap_len] at hc
    rw [swap_get hi hj, swap_get hi hj]
    rw [if_neg (by omega), if_neg (by omega)]
    have h1 := h.oth i i0 hi (by omega)
    by_cases e : c = j
    · rw [if_pos e]; exact h1
    · rw [if_neg e, if_neg (by omega)]
      have h2 := h.oth c c0 hc e
      rw [he] at h2; omega
theorem up_end {l : List Int} {j : Nat} (h : Up l j) (hj : j = 0 ∨ G l ((j - 1) / 2) ≤ G l j) : Hn l l.length := by
  intro c c0 hc
  by_cases e : c = j
  · subst e
    rcases hj with h1 | h1
    · omega
    · exact h1
  · exact h.oth c c0 hc e
structure Dn (l : List Int) (n i : Nat) : Prop where
  oth : ∀ c, 0 < c → c < n → (c - 1) / 2 ≠ i → G l ((c - 1) / 2) ≤ G l c
  sub : ∀ c, 0 < i → 0 < c → c < n → (c - 1) / 2 = i → G l ((i - 1) / 2) ≤ G l c
theorem dn_pop {l : List Int} {n : Nat} (hl : l.length = n + 1) (h : Hn l (n + 1)) : Dn (swapL l 0 n) n 0 := by
  refine ⟨fun c c0 hc hne => ?_, fun c h0 => by omega⟩
  rw [swap_get (by omega) (by omega), swap_get (by omega) (by omega), if_neg (by omega), if_neg hne, if_neg (by omega), if_neg (by omega)]
  exact h c c0 (by omega)
theorem dn_step {l : List Int} {n i j : Nat} (h : Dn l n i) (hn : n ≤ l.length) (hj : j < n) (hc : j = 2 * i + 1 ∨ j = 2 * i + 2) (hlt : G l j < G l i) (hm : ∀ c, 0 < c → c < n → (c - 1) / 2 = i → G l j ≤ G l c) : Dn (swapL l i j) n j := by
  have hi : i < l.length := by omega
  have hj' : j < l.length := by omega
  have hji : (j - 1) / 2 = i := by omega
  refine ⟨fun c c0 hcn hne => ?_, fun c j0 c0 hcn he => ?_⟩
  · rw [swap_get hi hj', swap_get hi hj', if_neg hne]
    by_cases e : (c - 1) / 2 = i
    · rw [if_pos e]
      by_cases e1 : c = j
      · rw [if_pos e1]; omega
      · rw [if_neg e1, if_neg (by omega)]; exact hm c c0 hcn e
    · rw [if_neg e]
      have h1 := h.oth c c0 hcn e
      rw [if_neg (by omega)]
      by_cases e1 : c = i
      · rw [if_pos e1]
        subst e1
        exact h.sub j (by omega) (by omega) hj hji
      · rw [if_neg e1]; exact h1
  · rw [swap_get hi hj', swap_get hi hj', hji, if_neg (by omega), if_pos rfl, if_neg (by omega), if_neg (by omega)]
    have := h.oth c c0 hcn (by omega)
    rw [he] at this; exact this
theorem dn_end {l : List Int} {n i : Nat} (h : Dn l n i) (hm : ∀ c, 0 < c → c < n → (c - 1) / 2 = i → G l i ≤ G l c) : Hn l n := by
  intro c c0 hc
  by_cases e : (c - 1) / 2 = i
  · rw [e]; exact hm c c0 hc e
  · exact h.oth c c0 hc e
def Asc (l : List Int) : Prop := l.Pairwise (· < ·)
theorem asc_ext : ∀ {l m : List Int}, Asc l → Asc m → (∀ x, x ∈ l ↔ x ∈ m) → l = m
  | [], [], _, _, _ => rfl
  | [], y :: m, _, _, h => by have := (h y).2 (by simp); cases this
  | x :: l, [], _, _, h => by have := (h x).1 (by simp); cases this
  | x :: l, y :: m, hl, hm, h => by
    have hl' := List.pairwise_cons.1 hl
    have hm' := List.pairwise_cons.1 hm
    have hxy : x = y := by
      rcases List.mem_cons.1 ((h x).1 (by simp)) with e | e
      · exact e
      · rcases List.mem_cons.1 ((h y).2 (by simp)) with e' | e'
        · exact e'.symm
        · have h1 := hm'.1 x e
          have h2 := hl'.1 y e'
          omega
    subst hxy
    congr 1
    refine asc_ext hl'.2 hm'.2 fun z => ?_
    have hz := h z
    constructor
    · intro hz'
      have h1 := hl'.1 z hz'
      rcases List.mem_cons.1 (hz.1 (by simp [hz'])) with e | e
      · omega
      · exact e
    · intro hz'
      have h1 := hm'.1 z hz'
      rcases List.mem_cons.1 (hz.2 (by simp [hz'])) with e | e
      · omega
      · exact e
/-- A number is put in where it belongs, once. -/
def addI (l : List Int) (x : Int) : List Int := if x ∈ l then l else l.takeWhile (· < x) ++ x :: l.dropWhile (· < x)
theorem addI_mem (l : List Int) (x y : Int) : y ∈ addI l x ↔ y ∈ l ∨ y = x := by
  unfold addI
  split
  · rename_i h
    constructor
    · exact .inl
    · rintro (h1 | rfl)
      · exact h1
      · exact h
  · have : y ∈ l ↔ y ∈ l.takeWhile (· < x) ∨ y ∈ l.dropWhile (· < x) := by
      conv => lhs; rw [← List.takeWhile_append_dropWhile (p := fun y => decide (y < x)) (l := l)]
      rw [List.mem_append]
    rw [this]
    simp only [List.mem_append, List.mem_cons]
    constructor
    · rintro (h | rfl | h)
      · exact .inl (.inl h)
      · exact .inr rfl
      · exact .inl (.inr h)
    · rintro ((h | h) | rfl)
      · exact .inl h
      · exact .inr (.inr h)
      · exact .inr (.inl rfl)
theorem tw_lt {x y : Int} : ∀ {l : List Int}, y ∈ l.takeWhile (· < x) → y < x
  | [], h => by cases h
  | z :: zs, h => by
    rw [List.takeWhile_cons] at h
    split at h
    · rename_i hz
      rcases List.mem_cons.1 h with rfl | h
      · simpa using hz
      · exact tw_lt h
    · cases h
theorem dw_ge {x y : Int} : ∀ {l : List Int}, Asc l → y ∈ l.dropWhile (· < x) → x ≤ y
  | [], _, h => by cases h
  | z :: zs, ha, h => by
    have ha' := List.pairwise_cons.1 ha
    rw [List.dropWhile_cons] at h
    split at h
    · exact dw_ge ha'.2 h
    · rename_i hz
      simp at hz
      rcases List.mem_cons.1 h with rfl | h
      · exact hz
      · have := ha'.1 y h; omega
theorem addI_asc {l : List Int} {x : Int} (h : Asc l) : Asc (addI l x) := by
  unfold addI
  split
  · exact h
  · rename_i hx
    have h' := h
    unfold Asc at h'
    rw [← List.takeWhile_append_dropWhile (p := fun y => decide (y < x)) (l := l), List.pairwise_append] at h'
    refine List.pairwise_append.2 ⟨h'.1, List.pairwise_cons.2 ⟨fun y hy => ?_, h'.2.1⟩, fun a ha b hb => ?_⟩
    · have h1 := dw_ge h hy
      have h2 : y ∈ l := List.dropWhile_sublist (p := fun y => decide (y < x)) |>.subset hy
      have : x ≠ y := fun e => hx (e ▸ h2)
      omega
    · rcases List.mem_cons.1 hb with rfl | hb
      · exact tw_lt ha
      · exact h'.2.2 a ha b hb
/-- Numbers, rising, but some. -/
def restL (l w : List Int) : List Int := (l.filter fun x => !decide (x ∈ w)).foldl addI []
theorem foldI (l : List Int) : ∀ {o : List Int}, Asc o → Asc (l.foldl addI o) ∧ ∀ x, x ∈ l.foldl addI o ↔ x ∈ o ∨ x ∈ l := by
  induction l with
  | nil => intro o h; exact ⟨h, fun x => by simp⟩
  | cons y ys ih =>
    intro o h
    obtain ⟨h1, h2⟩ := ih (addI_asc (x := y) h)
    refine ⟨h1, fun x => ?_⟩
    rw [List.foldl_cons, h2, addI_mem, List.mem_cons, or_assoc]
theorem restL_spec (l w : List Int) : Asc (restL l w) ∧ ∀ x, x ∈ restL l w ↔ x ∈ l ∧ x ∉ w := by
  obtain ⟨h1, h2⟩ := foldI (l.filter fun x => !decide (x ∈ w)) (o := []) List.Pairwise.nil
  refine ⟨h1, fun x => ?_⟩
  have := h2 x
  simpa [restL, List.mem_filter] using this
theorem addI_len (l : List Int) (x : Int) : (addI l x).length ≤ l.length + 1 := by
  unfold addI
  split
  · omega
  · have := congrArg List.length (List.takeWhile_append_dropWhile (p := fun y => decide (y < x)) (l := l))
    simp only [List.length_append, List.length_cons] at *
    omega
theorem restL_len (l w : List Int) : (restL l w).length ≤ l.length := by
  have : ∀ (l o : List Int), (l.foldl addI o).length ≤ o.length + l.length := by
    intro l
    induction l with
    | nil => intro o; simp
    | cons y ys ih => intro o; have := ih (addI o y); have := addI_len o y; simp only [List.foldl_cons, List.length_cons]; omega
  have h1 := this (l.filter fun x => !decide (x ∈ w)) []
  have h2 := List.length_filter_le (fun x => !decide (x ∈ w)) l
  simp only [List.length_nil] at h1
  unfold restL
  omega
/-- The next one that is popped. -/
def popI (o : List Int) (x : Int) : List Int := if o.getLast? = some x then o else o ++ [x]
theorem popI_asc {o : List Int} {x : Int} (h : Asc o) (hx : ∀ y ∈ o, y ≤ x) : Asc (popI o x) ∧ ∀ y, y ∈ popI o x ↔ y ∈ o ∨ y = x := by
  unfold popI
  split
  · rename_i hl
    refine ⟨h, fun y => ⟨.inl, ?_⟩⟩
    rintro (h1 | rfl)
    · exact h1
    · exact List.mem_of_getLast? hl
  · rename_i hl
    refine ⟨List.pairwise_append.2 ⟨h, by simp, fun a ha b hb => ?_⟩, fun y => by simp⟩
    simp at hb
    subst hb
    have h1 := hx a ha
    by_cases e : a = b
    · exfalso
      subst e
      -- the last one is greater than all ahead of it
      cases hz : o.getLast? with
      | none => rw [List.getLast?_eq_none_iff] at hz; subst hz; cases ha
      | some z =>
        have hzm := List.mem_of_getLast? hz
        have h2 := hx z hzm
        obtain ⟨o', ho'⟩ : ∃ o', o = o' ++ [z] := by
          rw [List.getLast?_eq_some_iff] at hz
          exact hz
        subst ho'
        rcases List.mem_append.1 ha with h3 | h3
        · have := (List.pairwise_append.1 h).2.2 a h3 z (by simp)
          omega
        · simp at h3
          subst h3
          exact hl (by simp)
    · omega
end Go.Hp
namespace Go.Hp
open Go.Vx Go.Vc Go.Proofs
abbrev iE : Int → List Value := intE .i64
theorem iLen (n : Int) : (iE n).length = 1 := rfl
theorem iOne (n : Int) : ∀ u ∈ iE n, u.oneCell' = true := fun u hu => by simp [intE] at hu; subst hu; rfl
theorem tN : ElemT Tryz.prog 139 3 1 8 := .of (by kernel_rfl)
/-- The block k holds numbers in an array of their own, beside F. -/
structure Hq (F H : PHeap) (k : Nat) (l : List Int) : Prop where
  sub : Sub F H
  off : F k = none
  row : ∃ oa n c, Bx H k 139 [.slice oa n c] ∧ OwnL H 3 iE 1 oa n c l ∧ Off F oa ∧ ∀ a, oa = some a → a.block ≠ k
abbrev hv (k : Nat) : Value := .iface 138 (.pointer (at0 k))
abbrev vI (n : Int) : Value := .int .i64 n
theorem uN : Tryz.prog.underlying 138 = some (.pointer 139) := by kernel_rfl
theorem len_ok {F H : PHeap} {k : Nat} {l : List Int} {Q : Value → PHeap → Prop} (h : Hq F H k l) (hQ : Q (vI l.length) H) : CallI Tryz.prog (hv k) "Len" #[] H Q := by
  obtain ⟨oa, n, c, hb, ho, _, _⟩ := h.row
  have hn := (ho.rd (E := iE) (sz := 1) (by omega) iLen).len
  refine CallI.load (f := 220) (by kernel_rfl) uN (by kernel_rfl) (by kernel_rfl) hb.reads ?_
  exact nLen.vc oa n c H Q (by rw [← hn]; exact hQ)
theorem less_ok {F H : PHeap} {k : Nat} {l : List Int} {i j : Nat} {Q : Value → PHeap → Prop} (h : Hq F H k l) (hi : i < l.length) (hj : j < l.length) (hQ : Q (.bool (decide (G l i < G l j))) H) :
    CallI Tryz.prog (hv k) "Less" #[vI i, vI j] H Q := by
  obtain ⟨oa, n, c, hb, ho, _, _⟩ := h.row
  have hr := ho.rd (E := iE) (sz := 1) (by omega) iLen
  have hn := hr.len
  refine CallI.load (f := 221) (by kernel_rfl) uN (by kernel_rfl) (by kernel_rfl) hb.reads ?_
  have h1 : Reads H (elemA oa (i : Int) 1) [vI (G l i)] := hr.at (by omega) (by rw [Int.toNat_natCast]; exact G_lt hi)
  have h2 : Reads H (elemA oa (j : Int) 1) [vI (G l j)] := hr.at (by omega) (by rw [Int.toNat_natCast]; exact G_lt hj)
  exact nLess.vc oa n c i j H Q ⟨H, Sub.refl _, hr.ob (by omega) (by omega), _, h1, hr.ob (by omega) (by omega), _, h2, hQ⟩
theorem swap_ok {F H : PHeap} {k : Nat} {l : List Int} {i j : Nat} {Q : Value → PHeap → Prop} (h : Hq F H k l) (hi : i < l.length) (hj : j < l.length) (hQ : ∀ H', Hq F H' k (swapL l i j) → Q (.tuple #[]) H') :
    CallI Tryz.prog (hv k) "Swap" #[vI i, vI j] H Q := by
  obtain ⟨oa, n, c, hb, ho, hof, hne⟩ := h.row
  have hr := ho.rd (E := iE) (sz := 1) (by omega) iLen
  have hn := hr.len
  refine CallI.load (f := 224) (by kernel_rfl) uN (by kernel_rfl) (by kernel_rfl) hb.reads ?_
  have h1 : Reads H (elemA oa (i : Int) 1) [vI (G l i)] := hr.at (by omega) (by rw [Int.toNat_natCast]; exact G_lt hi)
  have h2 : Reads H (elemA oa (j : Int) 1) [vI (G l j)] := hr.at (by omega) (by rw [Int.toNat_natCast]; exact G_lt hj)
  obtain ⟨H1, w1, o1, f1⟩ := Owns.set iLen ho (by omega) (i := (i : Int)) (by omega) (by omega) (G l j)
  obtain ⟨H2, w2, o2, f2⟩ := Owns.set iLen o1 (by omega) (i := (j : Int)) (by omega) (by omega) (G l i)
  rw [Int.toNat_natCast] at o2
  rw [Int.toNat_natCast] at o2
  refine nSwap.vc oa n c i j H Q ⟨H, Sub.refl _, hr.ob (by omega) (by omega), _, h2, hr.ob (by omega) (by omega), _, h1, hr.ob (by omega) (by omega), H1, w1, hr.ob (by omega) (by omega), H2, w2, hQ H2 ⟨f2.sub (f1.sub h.sub hof) hof, h.off, oa, n, c, f2.bx (f1.bx hb hne) hne, o2, hof, hne⟩⟩
theorem push_ok {F H : PHeap} {k : Nat} {l : List Int} {x : Int} {Q : Value → PHeap → Prop} (h : Hq F H k l) (hl : l.length ≤ 100000) (hQ : ∀ H', Hq F H' k (l ++ [x]) → Q (.tuple #[]) H') :
    CallI Tryz.prog (hv k) "Push" #[.iface 3 (vI x)] H Q := by
  obtain ⟨oa, n, c, hb, ho, hof, hne⟩ := h.row
  have hr := ho.rd (E := iE) (sz := 1) (by omega) iLen
  have hn := hr.len
  refine CallI.ptr (f := 223) (by kernel_rfl) uN (by kernel_rfl) ?_
  refine nPush.vc (at0 k) _ H Q (assert_same (d := .int .i64) (by kernel_rfl) (fun _ e => by cases e) ⟨x, true, rfl, fun _ => ⟨obP k, oa, n, c, hb.reads, fun k10 hk10 => ?_⟩, fun e => by cases e⟩)
  refine append_one tN (E := iE) (l := l) (x := x) hk10 iLen ho rfl (iOne x) (by simp [maxLen]; omega) (by omega) ?_
  intro oa' c' H' how hf hfr _
  have hb' := hf.bx hb hne
  have hne' := hfr.ne hb hne
  have hof' := hfr.off h.sub hof
  refine ⟨oa', n + 1, c', rfl, obP k, _, hb'.writes [.slice oa' (n + 1) c'] rfl, hQ _ ⟨(hf.sub h.sub hof).wr h.off, h.off, oa', n + 1, c', Bx.new H' k _ _, ?_, hof', hne'⟩⟩
  exact Owns.mono how fun a o ha hb => by rw [Vx.upd_ne _ _ (hne' a ha)]; exact hb
theorem pop_ok {F H : PHeap} {k : Nat} {l : List Int} {x : Int} {Q : Value → PHeap → Prop} (h : Hq F H k (l ++ [x])) (hl : l.length ≤ 100000) (hQ : ∀ H', Hq F H' k l → Q (.iface 3 (vI x)) H') :
    CallI Tryz.prog (hv k) "Pop" #[] H Q := by
  obtain ⟨oa, n, c, hb, ho, hof, hne⟩ := h.row
  have hr := ho.rd (E := iE) (sz := 1) (by omega) iLen
  have hn := hr.len
  have hnc := ho.le
  rw [List.length_append, List.length_singleton] at hn
  have ew : IntKind.i64.wrap ((n : Int) - 1) = (l.length : Int) := by rw [wrap64 (by omega) (by omega)]; omega
  have h1 : Reads H (elemA oa (l.length : Int) 1) [vI x] := hr.at (by omega) (by rw [Int.toNat_natCast]; simp)
  refine CallI.ptr (f := 222) (by kernel_rfl) uN (by kernel_rfl) ?_
  refine nPop.vc (at0 k) H Q ⟨obP k, oa, n, c, hb.reads, obP k, oa, n, c, hb.reads, ?_⟩
  rw [ew]
  refine ⟨hr.ob (by omega) (by omega), x, h1, obP k, oa, n, c, hb.reads, ⟨by omega, by omega, by omega⟩, obP k, _, hb.writes [.slice (slA oa 0 c 1) ((l.length : Int).toNat - Int.toNat 0) (c - Int.toNat 0)] rfl, hQ _ ⟨h.sub.wr h.off, h.off, _, _, _, Bx.new H k _ _, ?_, ?_, ?_⟩⟩
  · rw [slA_zero]
    have h2 := ho.cut (m := l.length) (by omega)
    rw [List.flatMap_append, List.take_left' (by rw [length_flatMap iLen])] at h2
    simp only [Int.toNat_natCast, Int.toNat_zero, Nat.sub_zero]
    exact Owns.mono h2 fun a o ha hb => by rw [Vx.upd_ne _ _ (hne a ha)]; exact hb
  · rw [slA_zero]; exact hof
  · rw [slA_zero]; exact hne
theorem up_ok {F H : PHeap} {k j : Nat} {l : List Int} (h : Hq F H k l) (hj : j < l.length) (hl : l.length ≤ 100001) (hu : Up l j) :
    Triple Tryz.prog 141 #[hv k, vI j] H fun v H' => v = .tuple #[] ∧ ∃ l', Hq F H' k l' ∧ Hn l' l'.length ∧ l'.length = l.length ∧ ∀ x, x ∈ l' ↔ x ∈ l := by
  refine hUp.vc (hv k) j H _ ⟨fun t H' => match t with | [.int _ j] => 0 ≤ j ∧ ∃ l', Hq F H' k l' ∧ j.toNat < l'.length ∧ Up l' j.toNat ∧ l'.length = l.length ∧ ∀ x, x ∈ l' ↔ x ∈ l | _ => False, fun t _ => match t with | [.int _ j] => j.toNat | _ => 0, ⟨by omega, l, h, by omega, by rw [Int.toNat_natCast]; exact hu, rfl, fun _ => Iff.rfl⟩, ?_⟩
  rintro j' H1 ⟨j0, l', h', hj', hu', hl', hm⟩
  obtain ⟨j', rfl⟩ : ∃ q : Nat, j' = q := ⟨j'.toNat, by omega⟩
  rw [Int.toNat_natCast] at hj' hu'
  rcases Nat.eq_zero_or_pos j' with rfl | hp
  · have e : IntKind.i64.wrap ((IntKind.i64.wrap (((0 : Nat) : Int) - 1)).tdiv 2) = 0 := by decide
    rw [e]
    refine ⟨⟨by omega⟩, fun e => by simp at e, fun _ => ⟨rfl, l', h', up_end hu' (.inl rfl), hl', hm⟩⟩
  · have e : IntKind.i64.wrap ((IntKind.i64.wrap ((j' : Int) - 1)).tdiv 2) = (((j' - 1) / 2 : Nat) : Int) := by
      rw [wrap64 (n := (j' : Int) - 1) (by omega) (by omega), Int.tdiv_eq_ediv_of_nonneg (by omega), wrap64 (by omega) (by omega)]
      omega
    rw [e]
    refine ⟨⟨by omega⟩, fun _ => ?_, fun e => ?_⟩
    · refine less_ok h' hj' (by omega) ⟨_, rfl, fun e => ⟨rfl, l', h', up_end hu' (.inr ?_), hl', hm⟩, fun e => ?_⟩
      · have : ¬ G l' j' < G l' ((j' - 1) / 2) := by simpa using e
        omega
      · have hlt : G l' j' < G l' ((j' - 1) / 2) := by simpa using e
        refine swap_ok h' (by omega) hj' fun H2 h2 => ⟨rfl, ⟨by omega, _, h2, ?_, ?_, ?_, fun x => ?_⟩, ⟨?_⟩⟩
        · rw [swap_len]; omega
        · rw [Int.toNat_natCast]; exact up_step hu' hj' hp hlt
        · rw [swap_len, hl']
        · rw [swap_mem (by omega) hj', hm]
        · simp only [Int.toNat_natCast]; omega
    · exfalso
      have : (((j' - 1) / 2 : Nat) : Int) = j' := by simpa using e
      omega
theorem down_ok {F H : PHeap} {k n : Nat} {l : List Int} (h : Hq F H k l) (hl : l.length = n + 1) (hn : n ≤ 100000) (hd : Dn l n 0) :
    Triple Tryz.prog 142 #[hv k, vI 0, vI n] H fun v H' => (∃ b, v = .bool b) ∧ ∃ l', Hq F H' k l' ∧ Hn l' n ∧ l'.length = n + 1 ∧ G l' n = G l n ∧ ∀ x, x ∈ l' ↔ x ∈ l := by
  refine hDown.vc (hv k) 0 n H _ ⟨fun t H' => match t with | [.int _ i] => 0 ≤ i ∧ i ≤ n ∧ ∃ l', Hq F H' k l' ∧ Dn l' n i.toNat ∧ l'.length = n + 1 ∧ G l' n = G l n ∧ ∀ x, x ∈ l' ↔ x ∈ l | _ => False, fun t _ => match t with | [.int _ i] => (n - i).toNat | _ => 0, ⟨by omega, by omega, l, h, hd, hl, rfl, fun _ => Iff.rfl⟩, ?_⟩
  rintro i H1 ⟨i0, i1, l', h', hd', hl', hg, hm⟩
  obtain ⟨i, rfl⟩ : ∃ q : Nat, i = q := ⟨i.toNat, by omega⟩
  rw [Int.toNat_natCast] at hd'
  have e1 : IntKind.i64.wrap (2 * (i : Int)) = ((2 * i : Nat) : Int) := by rw [wrap64 (by omega) (by omega)]; omega
  have e2 : IntKind.i64.wrap (((2 * i : Nat) : Int) + 1) = ((2 * i + 1 : Nat) : Int) := by rw [wrap64 (by omega) (by omega)]; omega
  have e3 : IntKind.i64.wrap (((2 * i + 1 : Nat) : Int) + 1) = ((2 * i + 2 : Nat) : Int) := by rw [wrap64 (by omega) (by omega)]; omega
  rw [e1, e2, e3]
  -- it ends here
  have fin : ∀ {H2 : PHeap} {b : Bool}, Hq F H2 k l' → (∀ c, 0 < c → c < n → (c - 1) / 2 = i → G l' i ≤ G l' c) → (∃ b', Value.bool b = .bool b') ∧ ∃ l', Hq F H2 k l' ∧ Hn l' n ∧ l'.length = n + 1 ∧ G l' n = G l n ∧ ∀ x, x ∈ l' ↔ x ∈ l :=
    fun {H2 b} hq hc => ⟨⟨b, rfl⟩, l', hq, dn_end hd' hc, hl', hg, hm⟩
  -- it goes on
  have go : ∀ {H2 : PHeap} {j : Nat} {R : PHeap → Prop}, Hq F H2 k l' → j < n → (j = 2 * i + 1 ∨ j = 2 * i + 2) → G l' j < G l' i → (∀ c, 0 < c → c < n → (c - 1) / 2 = i → G l' j ≤ G l' c) →
      (∀ H3, (0 ≤ (j : Int) ∧ (j : Int) ≤ n ∧ ∃ l', Hq F H3 k l' ∧ Dn l' n (j : Int).toNat ∧ l'.length = n + 1 ∧ G l' n = G l n ∧ ∀ x, x ∈ l' ↔ x ∈ l) ∧ Less ((n - (j : Int)).toNat) ((n - (i : Int)).toNat) → R H3) →
      CallI Tryz.prog (hv k) "Swap" #[vI i, vI j] H2 fun v H3 => v = .tuple #[] ∧ R H3 := by
    intro H2 j R hq hj hji hlt hmin hR
    refine swap_ok hq (by omega) (by omega) fun H3 h3 => ⟨rfl, hR H3 ⟨⟨by omega, by omega, _, h3, ?_, ?_, ?_, fun x => ?_⟩, ⟨by omega⟩⟩⟩
    · rw [Int.toNat_natCast]; exact dn_step hd' (by omega) hj hji hlt hmin
    · rw [swap_len]; exact hl'
    · rw [swap_get (by omega) (by omega), if_neg (by omega), if_neg (by omega)]; exact hg
    · rw [swap_mem (by omega) (by omega), hm]
  refine ⟨fun e => fin h' fun c c0 c1 c2 => ?_, fun e => ?_⟩
  · exfalso
    have : (n : Int) ≤ 2 * (i : Int) + 1 ∨ 2 * (i : Int) + 1 < 0 := by simpa using e
    omega
  have hlt1 : 2 * i + 1 < n := by
    by_cases hc : ((2 * i + 1 : Nat) : Int) ≥ n
    · simp [hc] at e; omega
    · omega
  refine ⟨fun e2 => ?_, fun e2 => ?_⟩
  · have hlt2 : 2 * i + 2 < n := by
      have : ((2 * i + 2 : Nat) : Int) < n := by simpa using e2
      omega
    refine less_ok h' (by omega) (by omega) ⟨_, rfl, ?_⟩
    -- the lesser child
    obtain ⟨j, hj, hjn, hji, hmin⟩ : ∃ j : Nat, (bif decide (G l' (2 * i + 2) < G l' (2 * i + 1)) then ((2 * i + 2 : Nat) : Int) else ((2 * i + 1 : Nat) : Int)) = (j : Int) ∧ j < n ∧ (j = 2 * i + 1 ∨ j = 2 * i + 2) ∧ ∀ c, 0 < c → c < n → (c - 1) / 2 = i → G l' j ≤ G l' c := by
      by_cases hc : G l' (2 * i + 2) < G l' (2 * i + 1)
      · refine ⟨2 * i + 2, by rw [decide_eq_true hc]; rfl, hlt2, .inr rfl, fun c c0 c1 c2 => ?_⟩
        have : c = 2 * i + 1 ∨ c = 2 * i + 2 := by omega
        rcases this with rfl | rfl <;> omega
      · refine ⟨2 * i + 1, by rw [decide_eq_false hc]; rfl, hlt1, .inl rfl, fun c c0 c1 c2 => ?_⟩
        have : c = 2 * i + 1 ∨ c = 2 * i + 2 := by omega
        rcases this with rfl | rfl <;> omega
    rw [hj]
    refine less_ok h' (by omega) (by omega) ⟨_, rfl, fun e => fin h' fun c c0 c1 c2 => ?_, fun e => go h' hjn hji (by simpa using e) hmin fun H3 h3 => h3⟩
    have : ¬ G l' j < G l' i := by simpa using e
    have := hmin c c0 c1 c2
    omega
  · have hge : ¬ 2 * i + 2 < n := by
      have : ¬ ((2 * i + 2 : Nat) : Int) < n := by simpa using e2
      omega
    have hmin : ∀ c, 0 < c → c < n → (c - 1) / 2 = i → G l' (2 * i + 1) ≤ G l' c := fun c c0 c1 c2 => by
      have : c = 2 * i + 1 := by omega
      rw [this]; exact Int.le_refl _
    refine less_ok h' (by omega) (by omega) ⟨_, rfl, fun e => fin h' fun c c0 c1 c2 => ?_, fun e => go h' hlt1 (.inl rfl) (by simpa using e) hmin fun H3 h3 => h3⟩
    have : ¬ G l' (2 * i + 1) < G l' i := by simpa using e
    have := hmin c c0 c1 c2
    omega
theorem hpush_ok {F H : PHeap} {k : Nat} {l : List Int} {x : Int} (h : Hq F H k l) (hn : Hn l l.length) (hl : l.length ≤ 100000) :
    Triple Tryz.prog 101 #[hv k, .iface 3 (vI x)] H fun v H' => v = .tuple #[] ∧ ∃ l', Hq F H' k l' ∧ Hn l' l'.length ∧ l'.length = l.length + 1 ∧ ∀ y, y ∈ l' ↔ y ∈ l ∨ y = x := by
  refine hPush.vc (hv k) _ H _ (push_ok h hl fun H1 h1 => ⟨rfl, len_ok h1 ⟨_, rfl, ?_⟩⟩)
  have e : IntKind.i64.wrap (((l ++ [x]).length : Int) - 1) = (l.length : Int) := by
    rw [List.length_append, List.length_singleton, wrap64 (by omega) (by omega)]; omega
  rw [e]
  refine (up_ok h1 (by simp) (by simp; omega) (up_push hn)).mono ?_
  rintro _ H2 ⟨rfl, l', h2, h3, h4, h5⟩
  exact ⟨rfl, rfl, l', h2, h3, by simpa using h4, fun y => by rw [h5]; simp⟩
theorem hpop_ok {F H : PHeap} {k : Nat} {l : List Int} (h : Hq F H k l) (hn : Hn l l.length) (h0 : l ≠ []) (hl : l.length ≤ 100000) :
    Triple Tryz.prog 103 #[hv k] H fun v H' => v = .iface 3 (vI (G l 0)) ∧ ∃ l', Hq F H' k l' ∧ Hn l' l'.length ∧ l'.length + 1 = l.length ∧ ∀ y, y ∈ l ↔ y ∈ l' ∨ y = G l 0 := by
  obtain ⟨n, hln⟩ : ∃ n, l.length = n + 1 := ⟨l.length - 1, by
    have : l.length ≠ 0 := fun e => h0 (List.eq_nil_of_length_eq_zero e)
    omega⟩
  refine hPop.vc (hv k) H _ (len_ok h ⟨_, rfl, ?_⟩)
  have e : IntKind.i64.wrap ((l.length : Int) - 1) = (n : Int) := by rw [hln, wrap64 (by omega) (by omega)]; omega
  rw [e]
  refine swap_ok (i := 0) (j := n) h (by omega) (by omega) fun H1 h1 => ⟨rfl, ?_⟩
  refine (down_ok h1 (by rw [swap_len]; exact hln) (by omega) (dn_pop hln (by rw [← hln]; exact hn))).mono ?_
  rintro _ H2 ⟨⟨b, rfl⟩, l', h2, h3, h4, h5, h6⟩
  have e5 : G l' n = G l 0 := by rw [h5, swap_get (by omega) (by omega), if_pos rfl]
  have hsplit : l' = l'.take n ++ [G l 0] := by
    conv => lhs; rw [← List.take_append_drop n l']
    congr 1
    have h7 : l'.drop n = [G l' n] := by
      rw [List.drop_eq_getElem_cons (by omega), List.drop_eq_nil_of_le (by omega)]
      congr 1
      have := G_lt (l := l') (i := n) (by omega)
      rw [List.getElem?_eq_getElem (by omega)] at this
      exact Option.some.inj this
    rw [h7, e5]
  rw [hsplit] at h2
  refine ⟨b, rfl, pop_ok h2 (by rw [List.length_take]; omega) fun H3 h7 => ⟨_, rfl, rfl, l'.take n, h7, ?_, by rw [List.length_take]; omega, fun y => ?_⟩⟩
  · have hlt : (l'.take n).length = n := by rw [List.length_take]; omega
    intro c c0 c1
    rw [hlt] at c1
    have gt : ∀ c, c < n → G (l'.take n) c = G l' c := fun c hc => by simp [G, List.getD_eq_getElem?_getD, hc]
    rw [gt _ (by omega), gt _ c1]
    exact h3 c c0 c1
  · rw [← swap_mem (i := 0) (j := n) (by omega) (by omega), ← h6]
    conv => lhs; rw [hsplit]
    simp
end Go.Hp
namespace Go.Hp
open Go.Vx Go.Vc Go.Proofs
theorem Hq.app {F H H' H0 : PHeap} {k : Nat} {h : List Int} {oa oa' : Option Addr} {n c n' c' : Nat} {l l' : List Int} (hq : Hq F H k h) (hF : OwnL F 3 iE 1 oa n c l) (hf : Vx.Frame oa H H') (hfr : Vx.Fresh oa oa' H) (how : OwnL H' 3 iE 1 oa' n' c' l')
    (h0 : Sub H0 F) (hoff : Off H0 oa) : ∃ F', Sub H0 F' ∧ Hq F' H' k h ∧ OwnL F' 3 iE 1 oa' n' c' l' ∧ Off H0 oa' := by
  obtain ⟨F', g1, g2, g3, g4⟩ := hf.grab (oa' := oa') hq.sub
  obtain ⟨ob, m, q, hb, ho, hof, hne⟩ := hq.row
  have hoff' := hfr.off (h0.trans hq.sub) hoff
  -- the slice's block is none of the heap's
  have inF : ∀ a, oa = some a → ∃ o, F a.block = some o := fun a ha => by subst ha; exact hF.blk
  have ne1 : ∀ a, oa = some a → a.block ≠ k := fun a ha e => by obtain ⟨o, h1⟩ := inF a ha; rw [e, hq.off] at h1; cases h1
  have ne2 : ∀ a, oa' = some a → a.block ≠ k := hfr.ne hb ne1
  have hbk : ∀ b, ob = some b → ∃ o, H b.block = some o := fun b hb' => by subst hb'; exact ho.blk
  have ne3 : ∀ b, ob = some b → ∀ a, oa = some a → a.block ≠ b.block := fun b hb' a ha e => by
    obtain ⟨o, h1⟩ := inF a ha
    rw [e, hof b hb'] at h1; cases h1
  have ne4 : ∀ b, ob = some b → ∀ a, oa' = some a → a.block ≠ b.block := fun b hb' => by
    obtain ⟨o, h1⟩ := hbk b hb'
    exact hfr.ne h1 (ne3 b hb')
  refine ⟨F', ⟨fun q o hq' => g4 q o (h0.le _ _ hq') fun a ha e => by rw [e, hoff a ha] at hq'; cases hq'⟩, ⟨g1, g3 k hq.off fun a ha e => ne2 a ha e.symm, ob, m, q, hf.bx hb ne1, ?_, ?_, hne⟩, ?_, hoff'⟩
  · exact Owns.mono ho fun b o hb' h1 => hf _ _ h1 fun a ha e => ne3 b hb' a ha e.symm
  · exact fun b hb' => g3 _ (hof b hb') fun a ha e => ne4 b hb' a ha e.symm
  · exact Owns.mono how fun a o ha h1 => by rw [g2 a ha]; exact h1
theorem some_ok {F H : PHeap} {k : Nat} {l : List Int} (h : Hq F H k l) : Triple Tryz.prog 102 #[hv k] H fun v H' => v = .bool (!l.isEmpty) ∧ H' = H := by
  refine some.vc (hv k) H _ (len_ok h ⟨_, rfl, ?_, rfl⟩)
  congr 1
  cases l with
  | nil => rfl
  | cons x xs => simp
theorem rest_ok {H : PHeap} {oa ob : Option Addr} {n c m d : Nat} {l w : List Int} (hl : RdL H iE 1 oa n l) (hw : RdL H iE 1 ob m w) (hn : n ≤ 100000) (hm : m ≤ 100000) :
    Triple Tryz.prog 61 #[.slice oa n c, .slice ob m d] H fun v H' => ∃ b k q, v = .slice b k q ∧ OwnL H' 3 iE 1 b k q (restL l w) ∧ Sub H H' ∧ Off H b := by
  have hll := hl.len
  refine rest.vc oa n c ob m d H _ fun k7 hk7 k8 hk8 => ?_
  have hne78 : k7 ≠ k8 := fun e => by rw [← e, upd_eq] at hk8; cases hk8
  have hk8' : H k8 = none := by rw [Vx.upd_ne _ _ hne78.symm] at hk8; exact hk8
  have s7 := Sub.upd (.cells #[] 3 (0, 0)) hk7
  have s8 := Sub.upd (.cells #[Value.slice (at0 k7) 0 0] 139 (0, 0)) hk8
  have hq0 : Hq H ((H.upd k7 (.cells #[] 3 (0, 0))).upd k8 (.cells #[Value.slice (at0 k7) 0 0] 139 (0, 0))) k8 [] :=
    ⟨s7.trans s8, hk8', at0 k7, 0, 0, Bx.new _ k8 _ _, Owns.mono (Owns.empty H k7 3 1) fun a o _ hb => s8.le _ _ hb, off_at0 hk7, fun a ha => by cases ha; exact hne78⟩
  refine ⟨fun t H' => match t with | [.int _ i] => 0 ≤ i ∧ i ≤ n ∧ ∃ h, Hq H H' k8 h ∧ Hn h h.length ∧ h.length ≤ i.toNat ∧ ∀ x, x ∈ h ↔ x ∈ l.take i.toNat ∧ x ∉ w | _ => False, fun t _ => match t with | [.int _ i] => (n - i).toNat | _ => 0,
    ⟨by omega, by omega, [], hq0, fun c c0 c1 => by simp at c1, by simp, by simp⟩, ?_⟩
  rintro i H12 ⟨i0, i1, h, hq, hhn, hhl, hmem⟩
  obtain ⟨i, rfl⟩ : ∃ j : Nat, i = j := ⟨i.toNat, by omega⟩
  rw [Int.toNat_natCast] at hhl hmem
  refine ⟨fun hi => ?_, fun hi => ?_⟩
  · have hi' : i < n := by simpa using hi
    have hl12 := hl.mono hq.sub
    obtain ⟨x, hx, hxr⟩ := hl12.ex (i := (i : Int)) (by omega) (by omega)
    rw [Int.toNat_natCast] at hx
    have htk : l.take (i + 1) = l.take i ++ [x] := by rw [List.take_add_one, hx]; rfl
    refine ⟨hl12.ob (by omega) (by omega), x, hxr, (Rnd.contains_ok (hw.mono hq.sub) hm).mono ?_⟩
    rintro _ _ ⟨rfl, rfl⟩
    rw [show IntKind.i64.wrap ((i : Int) + 1) = (i : Int) + 1 from Rnd.wrapS (by omega) (by omega)]
    refine ⟨_, rfl, fun e => ?_, fun e => ?_⟩
    · have hxw : x ∉ w := by simpa using e
      refine (hpush_ok (x := x) hq hhn (by omega)).mono ?_
      rintro _ H18 ⟨rfl, h', q', n', l', m'⟩
      refine ⟨rfl, ⟨by omega, by omega, h', q', n', by omega, fun y => ?_⟩, ⟨by simp only; omega⟩⟩
      rw [m', hmem, show ((i : Int) + 1).toNat = i + 1 by omega, htk, List.mem_append, List.mem_singleton]
      constructor
      · rintro (⟨h1, h2⟩ | rfl)
        · exact ⟨.inl h1, h2⟩
        · exact ⟨.inr rfl, hxw⟩
      · rintro ⟨h1 | rfl, h2⟩
        · exact .inl ⟨h1, h2⟩
        · exact .inr rfl
    · have hxw : x ∈ w := by simpa using e
      refine ⟨⟨by omega, by omega, h, hq, hhn, by omega, fun y => ?_⟩, ⟨by simp only; omega⟩⟩
      rw [hmem, show ((i : Int) + 1).toNat = i + 1 by omega, htk, List.mem_append, List.mem_singleton]
      constructor
      · rintro ⟨h1, h2⟩; exact ⟨.inl h1, h2⟩
      · rintro ⟨h1 | rfl, h2⟩
        · exact ⟨h1, h2⟩
        · exact absurd hxw h2
  · have hi' : ¬ i < n := by simpa using hi
    rw [List.take_of_length_le (by omega)] at hmem
    have hset : ∀ x, x ∈ h ↔ x ∈ restL l w := fun x => by rw [hmem, (restL_spec l w).2]
    refine ⟨fun t H' => match t with | [.slice a k q] => ∃ F h o, Sub H F ∧ Hq F H' k8 h ∧ Hn h h.length ∧ OwnL F 3 iE 1 a k q o ∧ Off H a ∧ Asc o ∧ (∀ y ∈ o, ∀ x ∈ h, y ≤ x) ∧ (∀ x, x ∈ restL l w ↔ x ∈ o ∨ x ∈ h) ∧ h.length + o.length ≤ 100000 | _ => False,
      fun t H' => match t with | [.slice _ _ _] => (match H' k8 with | some (.cells c _ _) => (match c.toList with | [.slice _ n _] => n | _ => 0) | _ => 0) | _ => 0,
      ⟨H, h, [], Sub.refl _, hq, hhn, Owns.nil _ _ 1, Off.none _, List.Pairwise.nil, by simp, fun x => by rw [← hset]; simp, by simp; omega⟩, ?_⟩
    rintro a k q H24 ⟨F, h2, o, sF, q2, n2, how, hoff, hasc, hle, hmm, hlen⟩
    -- how many there are, in the block
    have meas : ∀ {F H' : PHeap} {h : List Int}, Hq F H' k8 h → (match H' k8 with | some (.cells c _ _) => (match c.toList with | [.slice _ n _] => n | _ => 0) | _ => 0) = h.length := by
      intro F H' h hq
      obtain ⟨oa, n, c, hb, ho, _, _⟩ := hq.row
      have hr := (ho.rd (E := iE) (sz := 1) (by omega) iLen).len
      unfold Bx at hb
      rw [hb]
      simpa using hr.symm
    refine (some_ok q2).mono ?_
    rintro _ H26 ⟨rfl, hH⟩
    obtain rfl := hH.symm
    refine ⟨_, rfl, fun e => ?_, fun e => ?_⟩
    · have hne : h2 ≠ [] := fun e' => by rw [e'] at e; simp at e
      have hpos : 0 < h2.length := List.length_pos_iff.2 hne
      obtain ⟨oa2, n3, c3, hb2, ho2, hof2, hne2⟩ := q2.row
      have hr2 := ho2.rd (E := iE) (sz := 1) (by omega) iLen
      have hn3 := hr2.len
      have h0 : Reads H24 (elemA oa2 0 1) [vI (G h2 0)] := hr2.at (i := 0) (by omega) (by simpa using G_lt (l := h2) (i := 0) hpos)
      refine ⟨obP k8, oa2, n3, c3, hb2.reads, hr2.ob (by omega) (by omega), G h2 0, h0, (hpop_ok q2 n2 hne (by omega)).mono ?_⟩
      rintro _ H33 ⟨rfl, h3, q3, n3', l3, m3⟩
      have hleast : ∀ x ∈ h3, G h2 0 ≤ x := fun x hx => by
        obtain ⟨c, hc, rfl⟩ := mem_G.1 ((m3 x).2 (.inl hx))
        exact root_least n2 c hc
      have hG : G h2 0 ∈ h2 := mem_G.2 ⟨0, hpos, rfl⟩
      have hoG : ∀ y ∈ o, y ≤ G h2 0 := fun y hy => hle y hy _ hG
      obtain ⟨p1, p2⟩ := popI_asc hasc hoG
      have hrd := how.rd (E := iE) (sz := 1) (by omega) iLen
      have hok := hrd.len
      have lt3 : Less (match H33 k8 with | some (.cells c _ _) => (match c.toList with | [.slice _ n _] => n | _ => 0) | _ => 0) (match H24 k8 with | some (.cells c _ _) => (match c.toList with | [.slice _ n _] => n | _ => 0) | _ => 0) := ⟨by rw [meas q3, meas q2]; omega⟩
      -- what holds of the next ones
      have next : ∀ {F' H' : PHeap} {a' : Option Addr} {k' q' : Nat} {o' : List Int}, Sub H F' → Hq F' H' k8 h3 → OwnL F' 3 iE 1 a' k' q' o' → Off H a' → o' = popI o (G h2 0) → o'.length ≤ o.length + 1 →
          (∃ F h o, Sub H F ∧ Hq F H' k8 h ∧ Hn h h.length ∧ OwnL F 3 iE 1 a' k' q' o ∧ Off H a' ∧ Asc o ∧ (∀ y ∈ o, ∀ x ∈ h, y ≤ x) ∧ (∀ x, x ∈ restL l w ↔ x ∈ o ∨ x ∈ h) ∧ h.length + o.length ≤ 100000) := by
        intro F' H' a' k' q' o' g1 g2 g3 g4 g5 g6
        subst g5
        refine ⟨F', h3, _, g1, g2, n3', g3, g4, p1, fun y hy x hx => ?_, fun x => ?_, by omega⟩
        · rcases (p2 y).1 hy with hy | rfl
          · exact Int.le_trans (hoG y hy) (hleast x hx)
          · exact hleast x hx
        · rw [hmm, p2, m3]
          constructor
          · rintro (h | h | h)
            · exact .inl (.inl h)
            · exact .inr h
            · exact .inl (.inr h)
          · rintro ((h | h) | h)
            · exact .inl h
            · exact .inr (.inr h)
            · exact .inr (.inl h)
      have app : ∀ {k36 : Nat}, H33 k36 = none → o.getLast? ≠ some (G h2 0) → EvV Tryz.prog (Builtin.append_ #[42, 42] 42 #[.slice a k q, .slice (at0 k36) 1 1]) (H33.upd k36 (.cells #[vI (G h2 0)] 3 (0, 0))) fun v H38 => ∃ a' k' q', v = .slice a' k' q' ∧
          (∃ F h o, Sub H F ∧ Hq F H38 k8 h ∧ Hn h h.length ∧ OwnL F 3 iE 1 a' k' q' o ∧ Off H a' ∧ Asc o ∧ (∀ y ∈ o, ∀ x ∈ h, y ≤ x) ∧ (∀ x, x ∈ restL l w ↔ x ∈ o ∨ x ∈ h) ∧ h.length + o.length ≤ 100000) ∧
          Less (match H38 k8 with | some (.cells c _ _) => (match c.toList with | [.slice _ n _] => n | _ => 0) | _ => 0) (match H24 k8 with | some (.cells c _ _) => (match c.toList with | [.slice _ n _] => n | _ => 0) | _ => 0) := by
        intro k36 hk36 hlast
        refine append_one Rnd.tI (E := iE) (l := o) (x := G h2 0) hk36 iLen (Owns.mono how fun _ o _ hb => q3.sub.le _ _ hb) rfl (iOne _) (by simp [maxLen]; omega) (by omega) ?_
        intro a' q' H38 how' hf hfr _
        obtain ⟨F', f1, f2, f3, f4⟩ := q3.app how hf hfr how' sF hoff
        exact ⟨a', _, q', rfl, next f1 f2 f3 f4 (by unfold popI; rw [if_neg hlast]) (by simp), ⟨by rw [meas f2, meas q2]; omega⟩⟩
      refine ⟨_, rfl, fun e => ?_, fun e k42 hk42 => ?_⟩
      · have hk0 : k ≠ 0 := by simpa using e
        rw [show IntKind.i64.wrap ((k : Int) - 1) = ((k - 1 : Nat) : Int) by rw [wrap64 (by omega) (by omega)]; omega]
        have hrd3 := hrd.mono q3.sub
        obtain ⟨y, hy, hyr⟩ := hrd3.ex (i := ((k - 1 : Nat) : Int)) (by omega) (by omega)
        rw [Int.toNat_natCast] at hy
        have hlast : o.getLast? = some y := by rw [List.getLast?_eq_getElem?, hok]; exact hy
        refine ⟨hrd3.ob (by omega) (by omega), y, hyr, fun e => fun k36 hk36 => app hk36 (by rw [hlast]; intro e'; injection e' with e'; simp [e'] at e), fun e => ?_⟩
        have hyG : y = G h2 0 := by simpa using e
        exact ⟨next sF q3 how hoff (by unfold popI; rw [if_pos (by rw [hlast, hyG])]) (by omega), lt3⟩
      · have hk0 : k = 0 := by simpa using e
        have ho0 : o = [] := List.eq_nil_of_length_eq_zero (by omega)
        exact app hk42 (by rw [ho0]; simp)
    · have hemp : h2 = [] := by simpa using e
      subst hemp
      have heq : o = restL l w := asc_ext hasc (restL_spec l w).1 fun x => by rw [hmm]; simp
      subst heq
      exact ⟨a, k, q, rfl, Owns.mono how fun _ o _ hb => q2.sub.le _ _ hb, sF.trans q2.sub, hoff⟩
theorem has_ok {H : PHeap} {oa : Option Addr} {n c : Nat} {l : List Int} {x : Int} (hl : RdL H iE 1 oa n l) (hn : n ≤ 1000000) :
    Triple Tryz.prog 47 #[.slice oa n c, vI x] H fun v H' => v = .bool (decide (x ∈ l)) ∧ H' = H := by
  have hll := hl.len
  refine refHasD.vc oa n c x H _ ⟨fun t H' => match t with | [.int _ i] => 0 ≤ i ∧ i ≤ n ∧ H' = H ∧ x ∉ l.take i.toNat | _ => False, fun t _ => match t with | [.int _ i] => (n - i).toNat | _ => 0, ⟨by omega, by omega, rfl, by simp⟩, ?_⟩
  rintro i H1 ⟨i0, i1, rfl, hno⟩
  obtain ⟨i, rfl⟩ : ∃ j : Nat, i = j := ⟨i.toNat, by omega⟩
  rw [Int.toNat_natCast] at hno
  refine ⟨fun hi => ?_, fun hi => ?_⟩
  · have hi' : i < n := by simpa using hi
    obtain ⟨y, hy, hyr⟩ := hl.ex (i := (i : Int)) (by omega) (by omega)
    rw [Int.toNat_natCast] at hy
    refine ⟨hl.ob (by omega) (by omega), y, hyr, fun he => ⟨?_, rfl⟩, fun he => ?_⟩
    · have : y = x := by simpa using he
      have h1 : x ∈ l := by rw [← this]; exact List.mem_of_getElem? hy
      simp [h1]
    · rw [Rnd.wrapS (by omega) (by omega)]
      refine ⟨⟨by omega, by omega, rfl, ?_⟩, ⟨by simp only; omega⟩⟩
      have hne : y ≠ x := by simpa using he
      rw [show ((i : Int) + 1).toNat = i + 1 by omega, List.take_add_one, hy]
      simp only [List.mem_append, not_or]
      exact ⟨hno, by simpa using fun e => hne e.symm⟩
  · have : ¬ i < n := by simpa using hi
    rw [List.take_of_length_le (by omega)] at hno
    exact ⟨by simp [hno], rfl⟩
theorem put_tail {H : PHeap} {oa : Option Addr} {n c i : Nat} {l : List Int} {x : Int} {K : Option Addr → Nat → Nat → PHeap → Prop} (hl : RdL H iE 1 oa n l) (hi : i ≤ n) (hc : n ≤ c) (hn : n ≤ 100000)
    (hK : ∀ b m k H', RdL H' iE 1 b m (l.take i ++ x :: l.drop i) → m ≤ k → Sub H H' → K b m k H') :
    Ob (0 ≤ (i : Int) ∧ (i : Int) ≤ (n : Int) ∧ (n : Int) ≤ (c : Int)) ∧ ∀ (k14 : Nat), H k14 = none →
      EvV Tryz.prog (Builtin.append_ #[42, 42] 42 #[.slice (at0 k14) 1 1, .slice (slA oa i c 1) ((n : Int).toNat - (i : Int).toNat) (c - (i : Int).toNat)]) (H.upd k14 (.cells #[vI x] 3)) fun v15 H16 =>
        ∃ a17 k18 k19, v15 = Value.slice a17 k18 k19 ∧ ∀ (k20 : Nat), H16 k20 = none → Ob ((0 : Int) ≤ 0 ∧ 0 ≤ (i : Int) ∧ (i : Int) ≤ (c : Int)) ∧
          EvV Tryz.prog (Builtin.append_ #[42, 42] 42 #[.slice (at0 k20) 0 0, .slice (slA oa 0 c 1) ((i : Int).toNat - Int.toNat 0) (c - Int.toNat 0)]) (H16.upd k20 (.cells #[] 3)) fun v21 H22 =>
            ∃ a23 k24 k25, v21 = Value.slice a23 k24 k25 ∧
              EvV Tryz.prog (Builtin.append_ #[42, 42] 42 #[.slice a23 k24 k25, .slice a17 k18 k19]) H22 fun v26 H27 =>
                ∃ a28 k29 k30, v26 = Value.slice a28 k29 k30 ∧ K a28 k29 k30 H27 := by
  refine ⟨⟨by omega, by omega, by omega⟩, fun k1 hk1 => ?_⟩
  simp only [slA_zero, Int.toNat_natCast, Int.toNat_zero, Nat.sub_zero]
  have hs1 := Sub.upd (.cells #[vI x] 3 (0, 0)) hk1
  have ho1 := off_at0 hk1
  have own1 : OwnL (H.upd k1 (.cells #[vI x] 3 (0, 0))) 3 iE 1 (at0 k1) 1 1 [x] := ⟨rfl, .inr ⟨k1, #[vI x], rfl, upd_eq .., by omega, by simp [maxLen], rfl, rfl⟩⟩
  refine append_rd Rnd.tI (E := iE) (l := [x]) iLen own1 ((hl.drop hi hc).mono hs1) iOne (by simp [maxLen]; omega) (by omega) ?_
  intro b2 c2 H2 g2 hf2 hfr2
  refine ⟨b2, _, c2, rfl, fun k3 hk3 => ⟨⟨by omega, by omega, by omega⟩, ?_⟩⟩
  have hs2 := hf2.sub hs1 ho1
  have hs3 := Sub.upd (.cells #[] 3 (0, 0)) hk3
  refine append_rd Rnd.tI (E := iE) (l := []) iLen (Owns.empty H2 k3 _ 1) ((hl.take hi).mono (hs2.trans hs3)) iOne (by simp [maxLen]; omega) (by omega) ?_
  intro b4 c4 H4 g4 hf4 hfr4
  rw [Nat.zero_add] at g4 ⊢
  rw [List.nil_append] at g4
  have hs4 := hf4.sub hs3 (off_at0 hk3)
  have ho4 := hfr4.off hs3 (off_at0 hk3)
  refine ⟨b4, i, c4, rfl, append_rd Rnd.tI (E := iE) iLen g4 ((g2.rd (E := iE) (sz := 1) (by omega) iLen).mono hs4) iOne (by simp [maxLen]; omega) (by omega) ?_⟩
  intro b5 c5 H5 g5 hf5 hfr5
  exact ⟨b5, _, c5, rfl, hK _ _ _ _ (g5.rd (E := iE) (sz := 1) (by omega) iLen) g5.le (hs2.trans (hf5.sub hs4 ho4))⟩
theorem tw_len {l : List Int} {x : Int} {i : Nat} (h1 : ∀ j y, j < i → l[j]? = some y → y < x) (h2 : i ≤ l.length) (h3 : ∀ y, l[i]? = some y → ¬ y < x) : l.takeWhile (· < x) = l.take i ∧ l.dropWhile (· < x) = l.drop i := by
  induction l generalizing i with
  | nil => simp
  | cons y ys ih =>
    cases i with
    | zero =>
      have := h3 y rfl
      simp [List.takeWhile_cons, List.dropWhile_cons, this]
    | succ i =>
      have hy := h1 0 y (by omega) rfl
      obtain ⟨g1, g2⟩ := ih (i := i) (fun j z hj hz => h1 (j + 1) z (by omega) (by simpa using hz)) (by simpa using h2) (fun z hz => h3 z (by simpa using hz))
      simp [List.takeWhile_cons, List.dropWhile_cons, hy, g1, g2]
theorem restL_snoc (l w : List Int) (x : Int) : restL (l ++ [x]) w = if x ∈ w then restL l w else addI (restL l w) x := by
  unfold restL
  rw [List.filter_append, List.foldl_append]
  by_cases h : x ∈ w
  · simp [h]
  · simp [h]
theorem refRest_ok {H : PHeap} {oa ob : Option Addr} {n c m d : Nat} {l w : List Int} (hl : RdL H iE 1 oa n l) (hw : RdL H iE 1 ob m w) (hn : n ≤ 100000) (hm : m ≤ 100000) :
    Triple Tryz.prog 113 #[.slice oa n c, .slice ob m d] H fun v H' => ∃ b k q, v = .slice b k q ∧ RdL H' iE 1 b k (restL l w) ∧ k ≤ q ∧ Sub H H' := by
  have hll := hl.len
  refine refRest.vc oa n c ob m d H _ ⟨fun t H' => match t with | [.slice a k q, .int _ i] => 0 ≤ i ∧ i ≤ n ∧ k ≤ q ∧ Sub H H' ∧ RdL H' iE 1 a k (restL (l.take i.toNat) w) | _ => False, fun t _ => match t with | [_, .int _ i] => (n - i).toNat | _ => 0,
    ⟨by omega, by omega, Nat.le_refl _, Sub.refl _, RdL.nil _ _ _⟩, ?_⟩
  rintro a k q i H13 ⟨i0, i1, hkq, hs, hrd⟩
  obtain ⟨i, rfl⟩ : ∃ j : Nat, i = j := ⟨i.toNat, by omega⟩
  rw [Int.toNat_natCast] at hrd
  refine ⟨fun hi => ?_, fun hi => ?_⟩
  · have hi' : i < n := by simpa using hi
    have hl13 := hl.mono hs
    obtain ⟨x, hx, hxr⟩ := hl13.ex (i := (i : Int)) (by omega) (by omega)
    rw [Int.toNat_natCast] at hx
    have htk : l.take (i + 1) = l.take i ++ [x] := by rw [List.take_add_one, hx]; rfl
    have hrl := hrd.len
    have hlen := restL_len (l.take i) w
    rw [List.length_take] at hlen
    have next : restL (l.take ((i : Int) + 1).toNat) w = if x ∈ w then restL (l.take i) w else addI (restL (l.take i) w) x := by
      rw [show ((i : Int) + 1).toNat = i + 1 by omega, htk, restL_snoc]
    rw [show IntKind.i64.wrap ((i : Int) + 1) = (i : Int) + 1 from Rnd.wrapS (by omega) (by omega)]
    refine ⟨hl13.ob (by omega) (by omega), x, hxr, (has_ok (hw.mono hs) (by omega)).mono ?_⟩
    rintro _ H16 ⟨rfl, hH⟩
    obtain rfl := hH.symm
    refine ⟨_, rfl, fun e => ⟨hl13.ob (by omega) (by omega), x, hxr, (has_ok hrd (by omega)).mono ?_⟩, fun e => ?_⟩
    · have hxw : x ∉ w := by simpa using e
      rw [if_neg hxw] at next
      rintro _ H20 ⟨rfl, hH⟩
      obtain rfl := hH.symm
      refine ⟨_, rfl, fun e => ?_, fun e => ?_⟩
      · have hxo : x ∈ restL (l.take i) w := by simpa using e
        have : addI (restL (l.take i) w) x = restL (l.take i) w := by unfold addI; rw [if_pos hxo]
        exact ⟨⟨by omega, by omega, hkq, hs, by rw [next, this]; exact hrd⟩, ⟨by simp only; omega⟩⟩
      · have hxo : x ∉ restL (l.take i) w := by simpa using e
        refine ⟨fun t H' => match t with | [.int _ j] => 0 ≤ j ∧ j ≤ k ∧ H' = H13 ∧ ∀ z y, z < j.toNat → (restL (l.take i) w)[z]? = some y → y < x | _ => False, fun t _ => match t with | [.int _ j] => (k - j).toNat | _ => 0, ⟨by omega, by omega, rfl, fun z y hz => by simp at hz⟩, ?_⟩
        rintro j H25 ⟨j0, j1, hH, hlt⟩
        obtain rfl := hH.symm
        obtain ⟨j, rfl⟩ : ∃ z : Nat, j = z := ⟨j.toNat, by omega⟩
        rw [Int.toNat_natCast] at hlt
        -- it is put in here
        have fin : (∀ y, (restL (l.take i) w)[j]? = some y → ¬ y < x) → ∀ b m' k' H', RdL H' iE 1 b m' ((restL (l.take i) w).take j ++ x :: (restL (l.take i) w).drop j) → m' ≤ k' → Sub H13 H' →
            (0 ≤ (i : Int) + 1 ∧ (i : Int) + 1 ≤ n ∧ m' ≤ k' ∧ Sub H H' ∧ RdL H' iE 1 b m' (restL (l.take ((i : Int) + 1).toNat) w)) ∧ Less ((n - ((i : Int) + 1)).toNat) ((n - (i : Int)).toNat) := by
          intro hst b m' k' H' g1 g2 g3
          obtain ⟨t1, t2⟩ := tw_len hlt (by omega) hst
          have : addI (restL (l.take i) w) x = (restL (l.take i) w).take j ++ x :: (restL (l.take i) w).drop j := by unfold addI; rw [if_neg hxo, t1, t2]
          exact ⟨⟨by omega, by omega, g2, hs.trans g3, by rw [next, this]; exact g1⟩, ⟨by omega⟩⟩
        refine ⟨H13, Sub.refl _, fun hj => ?_, fun hj => ⟨H13, Sub.refl _, hl13.ob (by omega) (by omega), x, hxr, ?_⟩⟩
        · have hj' : j < k := by simpa using hj
          obtain ⟨y, hy, hyr⟩ := hrd.ex (i := (j : Int)) (by omega) (by omega)
          rw [Int.toNat_natCast] at hy
          refine ⟨hrd.ob (by omega) (by omega), y, hyr, hl13.ob (by omega) (by omega), x, hxr, fun e => ?_, fun e => ⟨H13, Sub.refl _, hl13.ob (by omega) (by omega), x, hxr, ?_⟩⟩
          · have hyx : y < x := by simpa using e
            rw [Rnd.wrapS (by omega) (by omega)]
            refine ⟨⟨by omega, by omega, rfl, fun z u hz hu => ?_⟩, ⟨by simp only; omega⟩⟩
            by_cases ez : z = j
            · subst ez; rw [hy] at hu; cases hu; exact hyx
            · exact hlt z u (by omega) hu
          · have hyx : ¬ y < x := by simpa using e
            exact put_tail hrd (by omega) hkq (by omega) (fin fun z hz => by rw [hy] at hz; cases hz; exact hyx)
        · have hj' : ¬ j < k := by simpa using hj
          exact put_tail hrd (by omega) hkq (by omega) (fin fun z hz => by have := (List.getElem?_eq_some_iff.1 hz).1; omega)
    · have hxw : x ∈ w := by simpa using e
      rw [if_pos hxw] at next
      exact ⟨⟨by omega, by omega, hkq, hs, by rw [next]; exact hrd⟩, ⟨by simp only; omega⟩⟩
  · have hi' : ¬ i < n := by simpa using hi
    rw [List.take_of_length_le (by omega)] at hrd
    exact ⟨a, k, q, rfl, hrd, hkq, hs⟩
end Go.Hp
namespace Go.Vc
open Go.Vx Go Go.Proofs.Tryz
def refEnough.cx : Cx := ⟨[], [(3, [5, 6], [])], [], []⟩
def refTurn.cx : Cx := ⟨[2], [(4, [6, 7, 8], []), (15, [10], []), (18, [11], [])], [], []⟩
def greatest.cx : Cx := ⟨[], [(3, [3, 4], [])], [], []⟩
def refWho.cx : Cx := ⟨[], [], [], []⟩
theorem refEnough.vc (n1 n2 n3 n4 n5 n6 : Int) (a7 : Option Addr) (k8 k9 : Nat) (H : PHeap) (Q : Value -> PHeap -> Prop)
 (h : ∃ (R10 : Rl) (M11 : Mu), R10 [iw 0, iw 0] H /\ ∀ (n12 n13 : Int) (H14 : PHeap), R10 [iw n12, iw n13] H14 -> (decide (n13 < (k8 : Int)) = true -> Ob (a7 ≠ none /\ 0 ≤ n13 /\ n13 < (k8 : Int)) /\
 Ob (elemA a7 n13 13 ≠ none) /\ ∃ n15, Reads H14 (fldA (elemA a7 n13 13) 0) [iw n15] /\ ((n15 == 20) = true -> Ob (a7 ≠ none /\ 0 ≤ n13 /\ n13 < (k8 : Int)) /\
 ∃ n16 n17 n18 n19 s20 n21 n22 n23 n24 n25 a26 k27 k28 a29 k30 k31 a32 k33 k34, Reads H14 (elemA a7 n13 13) [iw n16, iw n17, iw n18, iw n19, .string s20, iw n21,
 iw n22, iw n23, iw n24, iw n25, sw a26 k27 k28, sw a29 k30 k31, sw a32 k33 k34] /\ Triple prog 114 #[Value.agg #[iw n16, iw n17, iw n18, iw n19, .string s20, iw n21,
 iw n22, iw n23, iw n24, iw n25, sw a26 k27 k28, sw a29 k30 k31, sw a32 k33 k34], iw 0] H14 fun v35 H36 => ∃ n37, v35 = iw n37 /\
 R10 [iw (bif n37 == 1 then IntKind.i64.wrap (n12 + 1) else n12), iw (IntKind.i64.wrap (n13 + 1))] H36 /\ Less (M11 [iw (bif n37 == 1 then IntKind.i64.wrap (n12 + 1) else n12), iw (IntKind.i64.wrap (n13 + 1))] H36)
 (M11 [iw n12, iw n13] H14)) /\ ((n15 == 20) = !true -> R10 [iw n12, iw (IntKind.i64.wrap (n13 + 1))] H14 /\ Less (M11 [iw n12, iw (IntKind.i64.wrap (n13 + 1))] H14) (M11 [iw n12, iw n13] H14))) /\
 (decide (n13 < (k8 : Int)) = false -> Triple prog 16 #[.agg #[iw n1, iw n2, iw n3, iw n4, iw n5, iw n6]] H14
 fun v38 H39 => ∃ b40, v38 = .bool b40 /\ Q (.bool (bif b40 then decide (n12 ≥ IntKind.i64.wrap (IntKind.i64.wrap (n1 - n4) + 1)) else false)) H39)) :
 Triple prog 76 ([.agg #[iw n1, iw n2, iw n3, iw n4, iw n5, iw n6], sw a7 k8 k9]).toArray H Q := Triple.of_vc refEnough.cx (by kernel_rfl) h
theorem refTurn.vc (a1 : Option Addr) (k2 k3 : Nat) (s4 : ByteArray) (a5 : Option Addr) (k6 k7 : Nat) (a8 : Option Addr) (k9 k10 : Nat) (H : PHeap) (Q : Value -> PHeap -> Prop)
 (h : ∀ (k11 : Nat), H k11 = none -> ∃ (R12 : Rl) (M13 : Mu), R12 [.bool true, .string ({ data := #[] } : ByteArray), iw 0] (H.upd k11 (Obj.cells #[sw a1 k2 k3, .string s4, sw a5 k6 k7] 54)) /\
 ∀ (b14 : Bool) (s15 : ByteArray) (n16 : Int) (H17 : PHeap), R12 [.bool b14, .string s15, iw n16] H17 -> (decide (n16 < (k9 : Int)) = true -> Ob (a8 ≠ none /\ 0 ≤ n16 /\ n16 < (k9 : Int)) /\
 Ob (elemA a8 n16 13 ≠ none) /\ ∃ n18, Reads H17 (fldA (elemA a8 n16 13) 0) [iw n18] /\ ((n18 != 20) = true -> R12 [.bool b14, .string s15, iw (IntKind.i64.wrap (n16 + 1))] H17 /\
 Less (M13 [.bool b14, .string s15, iw (IntKind.i64.wrap (n16 + 1))] H17) (M13 [.bool b14, .string s15, iw n16] H17)) /\ ((n18 != 20) = false -> Ob (a8 ≠ none /\ 0 ≤ n16 /\ n16 < (k9 : Int)) /\
 ∃ n19 n20 n21 n22 s23 n24 n25 n26 n27 n28 a29 k30 k31 a32 k33 k34 a35 k36 k37, Reads H17 (elemA a8 n16 13) [iw n19, iw n20, iw n21, iw n22, .string s23, iw n24,
 iw n25, iw n26, iw n27, iw n28, sw a29 k30 k31, sw a32 k33 k34, sw a35 k36 k37] /\ Triple prog 114 #[Value.agg #[iw n19, iw n20, iw n21, iw n22, .string s23, iw n24,
 iw n25, iw n26, iw n27, iw n28, sw a29 k30 k31, sw a32 k33 k34, sw a35 k36 k37], iw 0] H17 fun v38 H39 => ∃ n40, v38 = iw n40 /\ ((n40 == 2) = true -> ∃ H41, Vx.Sub H41 H39 /\ Ob (at0 k11 ≠ none) /\ ∃ a42 k43 k44,
 Reads H41 (fldA (at0 k11) 2) [sw a42 k43 k44] /\ Ob (a8 ≠ none /\ 0 ≤ n16 /\ n16 < (k9 : Int)) /\ Ob (elemA a8 n16 13 ≠ none) /\ ∃ n45, Reads H41 (fldA (elemA a8 n16 13) 1) [iw n45] /\ ∀ (k46 : Nat), H39 k46 = none ->
 Vx.Sub H41 (H39.upd k46 (Obj.cells #[] 3)) /\ EvV prog (Builtin.append_ #[42, 42] 42 #[sw (at0 k46) 0 0, sw a42 k43 k44]) (H39.upd k46 (Obj.cells #[] 3)) fun v47 H48 => ∃ a49 k50 k51, v47 = sw a49 k50 k51 /\
 Vx.Sub H41 H48 /\ ∀ (k52 : Nat), H48 k52 = none -> Vx.Sub H41 (H48.upd k52 (Obj.cells #[iw n45] 3)) /\ EvV prog (Builtin.append_ #[42, 42] 42 #[sw a49 k50 k51, sw (at0 k52) 1 1])
 (H48.upd k52 (Obj.cells #[iw n45] 3)) fun v53 H54 => ∃ a55 k56 k57, v53 = sw a55 k56 k57 /\ Triple prog 113 #[sw a55 k56 k57, sw none 0 0] H54 fun v58 H59 => ∃ a60 k61 k62, v58 = sw a60 k61 k62 /\
 Ob (at0 k11 ≠ none) /\ ∃ H63, Writes H59 H63 (fldA (at0 k11) 2) [sw a60 k61 k62] /\ Ob (a8 ≠ none /\ 0 ≤ n16 /\ n16 < (k9 : Int)) /\ Ob (elemA a8 n16 13 ≠ none) /\ ∃ n64,
 Reads H63 (fldA (elemA a8 n16 13) 9) [iw n64] /\ ((n64 != 1) = true -> Ob (a8 ≠ none /\ 0 ≤ n16 /\ n16 < (k9 : Int)) /\ Ob (elemA a8 n16 13 ≠ none) /\ ∃ a65 k66 k67,
 Reads H63 (fldA (elemA a8 n16 13) 11) [sw a65 k66 k67] /\ (decide ((k66 : Int) > 0) = true -> Ob (a8 ≠ none /\ 0 ≤ n16 /\ n16 < (k9 : Int)) /\ Ob (elemA a8 n16 13 ≠ none) /\ ∃ a68 k69 k70,
 Reads H63 (fldA (elemA a8 n16 13) 11) [sw a68 k69 k70] /\ Triple prog 115 #[sw a68 k69 k70] H63 fun v71 H72 => ∃ s73, v71 = .string s73 /\ (b14 = false -> Triple prog 116 #[.string s73, .string s15] H72 fun v74 H75 =>
 ∃ b76, v74 = .bool b76 /\ R12 [.bool false, .string (bif b76 then s73 else s15), Value.int IntKind.i64 (IntKind.i64.wrap (n16 + 1))] H75 /\ Less (M13 [.bool false, .string (bif b76 then s73 else s15),
 Value.int IntKind.i64 (IntKind.i64.wrap (n16 + 1))] H75) (M13 [.bool b14, .string s15, iw n16] H17)) /\ (b14 = !false -> R12 [.bool false, .string s73, iw (IntKind.i64.wrap (n16 + 1))] H72 /\ Less (M13
 [.bool false, .string s73, Value.int IntKind.i64 (IntKind.i64.wrap (n16 + 1))] H72) (M13 [.bool b14, .string s15, iw n16] H17))) /\ (decide ((k66 : Int) > 0) = false -> R12 [.bool b14, .string s15,
 iw (IntKind.i64.wrap (n16 + 1))] H63 /\ Less (M13 [.bool b14, .string s15, iw (IntKind.i64.wrap (n16 + 1))] H63) (M13 [.bool b14, .string s15, iw n16] H17))) /\ ((n64 != 1) = !true -> R12 [.bool b14, .string s15,
 iw (IntKind.i64.wrap (n16 + 1))] H63 /\ Less (M13 [.bool b14, .string s15, iw (IntKind.i64.wrap (n16 + 1))] H63) (M13 [.bool b14, .string s15, iw n16] H17))) /\ ((n40 == 2) = false ->
 Ob (a8 ≠ none /\ 0 ≤ n16 /\ n16 < (k9 : Int)) /\ Ob (elemA a8 n16 13 ≠ none) /\ ∃ n77, Reads H39 (fldA (elemA a8 n16 13) 9) [iw n77] /\ ((n77 != 1) = true -> Ob (a8 ≠ none /\ 0 ≤ n16 /\ n16 < (k9 : Int)) /\
 Ob (elemA a8 n16 13 ≠ none) /\ ∃ a78 k79 k80, Reads H39 (fldA (elemA a8 n16 13) 11) [sw a78 k79 k80] /\ (decide ((k79 : Int) > 0) = true -> Ob (a8 ≠ none /\ 0 ≤ n16 /\ n16 < (k9 : Int)) /\
 Ob (elemA a8 n16 13 ≠ none) /\ ∃ a81 k82 k83, Reads H39 (fldA (elemA a8 n16 13) 11) [sw a81 k82 k83] /\ Triple prog 115 #[sw a81 k82 k83] H39 fun v84 H85 => ∃ s86, v84 = .string s86 /\ (b14 = false ->
 Triple prog 116 #[.string s86, .string s15] H85 fun v87 H88 => ∃ b89, v87 = .bool b89 /\ R12 [.bool false, .string (bif b89 then s86 else s15), iw (IntKind.i64.wrap (n16 + 1))] H88 /\ Less (M13
 [.bool false, .string (bif b89 then s86 else s15), iw (IntKind.i64.wrap (n16 + 1))] H88) (M13 [.bool b14, .string s15, iw n16] H17)) /\ (b14 = !false ->
 R12 [.bool false, .string s86, iw (IntKind.i64.wrap (n16 + 1))] H85 /\ Less (M13 [.bool false, .string s86, iw (IntKind.i64.wrap (n16 + 1))] H85) (M13 [.bool b14, .string s15, iw n16] H17))) /\
 (decide ((k79 : Int) > 0) = false -> R12 [.bool b14, .string s15, iw (IntKind.i64.wrap (n16 + 1))] H39 /\ Less (M13 [.bool b14, .string s15, iw (IntKind.i64.wrap (n16 + 1))] H39)
 (M13 [.bool b14, .string s15, iw n16] H17))) /\ ((n77 != 1) = !true -> R12 [.bool b14, .string s15, iw (IntKind.i64.wrap (n16 + 1))] H39 /\ Less (M13 [.bool b14, .string s15, iw (IntKind.i64.wrap (n16 + 1))] H39)
 (M13 [.bool b14, .string s15, iw n16] H17))))) /\ (decide (n16 < (k9 : Int)) = false -> ∃ (R90 : Rl) (M91 : Mu), R90 [iw 0] H17 /\ ∀ (n92 : Int) (H93 : PHeap), R90 [iw n92] H93 -> (decide (n92 < (k9 : Int)) = true ->
 ∃ (R94 : Rl) (M95 : Mu), R94 [iw 0] H93 /\ ∀ (n96 : Int) (H97 : PHeap), R94 [iw n96] H97 -> Ob (a8 ≠ none /\ 0 ≤ n92 /\ n92 < (k9 : Int)) /\ Ob (elemA a8 n92 13 ≠ none) /\ ∃ n98,
 Reads H97 (fldA (elemA a8 n92 13) 0) [iw n98] /\ ((n98 == 20) = true -> Ob (a8 ≠ none /\ 0 ≤ n92 /\ n92 < (k9 : Int)) /\ Ob (elemA a8 n92 13 ≠ none) /\ ∃ a99 k100 k101,
 Reads H97 (fldA (elemA a8 n92 13) 11) [sw a99 k100 k101] /\ (decide (n96 < (k100 : Int)) = true -> (b14 = false -> Ob (a8 ≠ none /\ 0 ≤ n92 /\ n92 < (k9 : Int)) /\ Ob (elemA a8 n92 13 ≠ none) /\ ∃ a102 k103 k104,
 Reads H97 (fldA (elemA a8 n92 13) 11) [sw a102 k103 k104] /\ Ob (a102 ≠ none /\ 0 ≤ n96 /\ n96 < (k103 : Int)) /\ ∃ s105, Reads H97 (elemA a102 n96 1) [.string s105] /\
 Triple prog 116 #[.string s15, .string s105] H97 fun v106 H107 => ∃ b108, v106 = .bool b108 /\ ((!b108) = true -> ∃ H109, Vx.Sub H109 H107 /\ Ob (at0 k11 ≠ none) /\ ∃ a110 k111 k112,
 Reads H109 (fldA (at0 k11) 0) [sw a110 k111 k112] /\ Ob (a8 ≠ none /\ 0 ≤ n92 /\ n92 < (k9 : Int)) /\ Ob (elemA a8 n92 13 ≠ none) /\ ∃ a113 k114 k115, Reads H109 (fldA (elemA a8 n92 13) 11) [sw a113 k114 k115] /\
 Ob (a113 ≠ none /\ 0 ≤ n96 /\ n96 < (k114 : Int)) /\ ∃ s116, Reads H109 (elemA a113 n96 1) [.string s116] /\ Triple prog 117 #[sw a110 k111 k112, .string s116] H107 fun v117 H118 => ∃ a119 k120 k121,
 v117 = sw a119 k120 k121 /\ Ob (at0 k11 ≠ none) /\ ∃ H122, Writes H118 H122 (fldA (at0 k11) 0) [sw a119 k120 k121] /\ R94 [iw (IntKind.i64.wrap (n96 + 1))] H122 /\ Less (M95 [iw (IntKind.i64.wrap (n96 + 1))] H122)
 (M95 [iw n96] H97)) /\ ((!b108) = false -> R94 [iw (IntKind.i64.wrap (n96 + 1))] H107 /\ Less (M95 [iw (IntKind.i64.wrap (n96 + 1))] H107) (M95 [iw n96] H97))) /\ (b14 = !false -> ∃ H123, Vx.Sub H123 H97 /\
 Ob (at0 k11 ≠ none) /\ ∃ a124 k125 k126, Reads H123 (fldA (at0 k11) 0) [sw a124 k125 k126] /\ Ob (a8 ≠ none /\ 0 ≤ n92 /\ n92 < (k9 : Int)) /\ Ob (elemA a8 n92 13 ≠ none) /\ ∃ a127 k128 k129,
 Reads H123 (fldA (elemA a8 n92 13) 11) [sw a127 k128 k129] /\ Ob (a127 ≠ none /\ 0 ≤ n96 /\ n96 < (k128 : Int)) /\ ∃ s130, Reads H123 (elemA a127 n96 1) [.string s130] /\
 Triple prog 117 #[sw a124 k125 k126, .string s130] H97 fun v131 H132 => ∃ a133 k134 k135, v131 = sw a133 k134 k135 /\ Ob (at0 k11 ≠ none) /\ ∃ H136, Writes H132 H136 (fldA (at0 k11) 0) [sw a133 k134 k135] /\
 R94 [iw (IntKind.i64.wrap (n96 + 1))] H136 /\ Less (M95 [iw (IntKind.i64.wrap (n96 + 1))] H136) (M95 [iw n96] H97))) /\ (decide (n96 < (k100 : Int)) = false -> R90 [iw (IntKind.i64.wrap (n92 + 1))] H97 /\
 Less (M91 [iw (IntKind.i64.wrap (n92 + 1))] H97) (M91 [iw n92] H93))) /\ ((n98 == 20) = !true -> R90 [iw (IntKind.i64.wrap (n92 + 1))] H97 /\ Less (M91 [iw (IntKind.i64.wrap (n92 + 1))] H97) (M91 [iw n92] H93))) /\
 (decide (n92 < (k9 : Int)) = false -> ((!b14) = true -> Ob (at0 k11 ≠ none) /\ ∃ H137, Writes H93 H137 (fldA (at0 k11) 1) [.string s15] /\ ∃ a138 k139 k140 s141 a142 k143 k144,
 Reads H137 (at0 k11) [sw a138 k139 k140, .string s141, sw a142 k143 k144] /\ Q (.tuple #[.agg #[sw a138 k139 k140, .string s141, sw a142 k143 k144], .bool b14]) H137) /\ ((!b14) = false ->
 ∃ a145 k146 k147 s148 a149 k150 k151, Reads H93 (at0 k11) [sw a145 k146 k147, .string s148, sw a149 k150 k151] /\ Q (.tuple #[.agg #[sw a145 k146 k147, .string s148, sw a149 k150 k151], .bool b14]) H93)))) :
 Triple prog 77 ([.agg #[sw a1 k2 k3, .string s4, sw a5 k6 k7], sw a8 k9 k10]).toArray H Q := Triple.of_vc refTurn.cx (by kernel_rfl) h
theorem greatest.vc (a1 : Option Addr) (k2 k3 : Nat) (H : PHeap) (Q : Value -> PHeap -> Prop)
 (h : ∃ (R4 : Rl) (M5 : Mu), R4 [.string ({ data := #[] } : ByteArray), iw 0] H /\ ∀ (s6 : ByteArray) (n7 : Int) (H8 : PHeap), R4 [.string s6, iw n7] H8 -> (decide (n7 < (k2 : Int)) = true ->
 Ob (a1 ≠ none /\ 0 ≤ n7 /\ n7 < (k2 : Int)) /\ ∃ s9, Reads H8 (elemA a1 n7 1) [.string s9] /\ Triple prog 116 #[.string s6, .string s9] H8 fun v10 H11 => ∃ b12, v10 = .bool b12 /\ (b12 = true ->
 Ob (a1 ≠ none /\ 0 ≤ n7 /\ n7 < (k2 : Int)) /\ ∃ s13, Reads H11 (elemA a1 n7 1) [.string s13] /\ R4 [.string s13, iw (IntKind.i64.wrap (n7 + 1))] H11 /\
 Less (M5 [.string s13, iw (IntKind.i64.wrap (n7 + 1))] H11) (M5 [.string s6, iw n7] H8)) /\ (b12 = false -> R4 [.string s6, iw (IntKind.i64.wrap (n7 + 1))] H11 /\
 Less (M5 [.string s6, iw (IntKind.i64.wrap (n7 + 1))] H11) (M5 [.string s6, iw n7] H8))) /\ (decide (n7 < (k2 : Int)) = false -> Q (.string s6) H8)) : Triple prog 115 ([sw a1 k2 k3]).toArray H Q :=
 Triple.of_vc greatest.cx (by kernel_rfl) h
theorem refWho.vc (n1 n2 n3 n4 : Int) (s5 : ByteArray) (n6 n7 n8 n9 n10 : Int) (a11 : Option Addr) (k12 k13 : Nat) (a14 : Option Addr) (k15 k16 : Nat) (a17 : Option Addr) (k18 k19 : Nat) (n20 : Int) (H : PHeap) (Q : Value -> PHeap -> Prop)
 (h : (decide (n20 ≥ (k12 : Int)) = true -> Q (iw 0) H) /\ (decide (n20 ≥ (k12 : Int)) = false -> Ob (a11 ≠ none /\ 0 ≤ n20 /\ n20 < (k12 : Int)) /\ ∃ n21, Reads H (elemA a11 n20 1) [iw n21] /\ Q (iw n21) H)) :
 Triple prog 114 ([Value.agg #[iw n1, iw n2, iw n3, iw n4, .string s5, iw n6, iw n7, iw n8, iw n9, iw n10, sw a11 k12 k13, sw a14 k15 k16, sw a17 k18 k19], iw n20]).toArray H Q :=
 Triple.of_vc refWho.cx (by kernel_rfl) h
end Go.Vc
