/- What is to be shown of each function, in its normal form. Printed by a program of this session's, checked by the kernel. -/
import Derived.Test.YtkmojhkmekijoaaVxN
import Derived.Test.YtkmojhkmekijoaaProg
set_option linter.unusedVariables false
set_option maxRecDepth 100000
namespace Go.Vc
open Go.Vx Go
def packs.cx : Cx := ⟨[], [(5, [28], []), (9, [6, 34], []), (22, [87], [])], [], []⟩

theorem packs.vc (a1 : Option Addr) (k2 : Nat) (k3 : Nat) (H : PHeap) (Q : Value → PHeap → Prop)
    (h : (decide ((↑k2 : Int) > 60) = false →
    Triple Proofs.Try.prog 5 #[Value.slice a1 k2 k3] H fun v4 H5 =>
      ∃ b6,
        v4 = Value.bool b6 ∧
        ((!b6) = true → Triple Proofs.Try.prog 6 #[] H5 fun v7 H8 => ∃ b9, v7 = Value.bool b9 ∧ Q (Value.bool b9) H8) ∧
        ((!b6) = false →
        ∀ (k10 : Nat),
        H5 k10 = none →
        EvV Proofs.Try.prog (Builtin.append_ #[22, 22] 22 #[Value.slice (at0 k10) 0 0, Value.slice a1 k2 k3]) (H5.upd k10 (Obj.cells #[] 32)) fun v11 H12 =>
        ∃ a13 k14 k15,
        v11 = Value.slice a13 k14 k15 ∧
        Triple Proofs.Try.prog 8 #[Value.slice a1 k2 k3] H12 fun v16 H17 =>
        ∃ a18 k19 k20,
        v16 = Value.slice a18 k19 k20 ∧
        Triple Proofs.Try.prog 7 #[Value.slice a18 k19 k20] H17 fun v21 H22 =>
        ∃ a23 k24 k25,
        v21 = Value.slice a23 k24 k25 ∧
        ∃ (R26 : Rl) (M27 : Mu),
        R26 [Value.int IntKind.i64 0] H22 ∧
        ∀ (n28 : Int) (H29 : PHeap),
        R26 [Value.int IntKind.i64 n28] H29 →
        (decide (n28 < (↑k24 : Int)) = true →
        Ob (a23 ≠ none ∧ 0 ≤ n28 ∧ n28 < (↑k24 : Int)) ∧
        ∃ n30 n31 n32,
        Reads H29 (elemA a23 n28 3) [Value.int IntKind.i64 n30, Value.int IntKind.i64 n31, Value.int IntKind.i64 n32] ∧
        ∃ (R33 : Rl) (M34 : Mu),
        R33 [Value.int IntKind.i64 (-1), Value.int IntKind.i64 0] H29 ∧
        ∀ (n35 n36 : Int) (H37 : PHeap),
        R33 [Value.int IntKind.i64 n35, Value.int IntKind.i64 n36] H37 →
        (decide (n36 < (↑k14 : Int)) = true →
        ∃ H38,
        Vx.Sub H38 H37 ∧
        Ob (a13 ≠ none ∧ 0 ≤ n36 ∧ n36 < (↑k14 : Int)) ∧
        Ob (elemA a13 n36 2 ≠ none) ∧
        ∃ n39,
        Reads H38 (fldA (elemA a13 n36 2) 0) [Value.int IntKind.i64 n39] ∧
        ((n39 == n30) = true →
        Ob (a13 ≠ none ∧ 0 ≤ n36 ∧ n36 < (↑k14 : Int)) ∧
        Ob (elemA a13 n36 2 ≠ none) ∧
        ∃ n40,
        Reads H38 (fldA (elemA a13 n36 2) 1) [Value.int IntKind.i64 n40] ∧
        R33
        [Value.int IntKind.i64 (bif n40 == n32 then n36 else n35),
        Value.int IntKind.i64 (IntKind.i64.wrap (n36 + 1))]
        H37 ∧
        Less
        (M34
        [Value.int IntKind.i64 (bif n40 == n32 then n36 else n35),
        Value.int IntKind.i64 (IntKind.i64.wrap (n36 + 1))]
        H37)
        (M34 [Value.int IntKind.i64 n35, Value.int IntKind.i64 n36] H37)) ∧
        ((n39 == n30) = !true →
        R33 [Value.int IntKind.i64 n35, Value.int IntKind.i64 (IntKind.i64.wrap (n36 + 1))] H37 ∧
        Less (M34 [Value.int IntKind.i64 n35, Value.int IntKind.i64 (IntKind.i64.wrap (n36 + 1))] H37)
        (M34 [Value.int IntKind.i64 n35, Value.int IntKind.i64 n36] H37))) ∧
        (decide (n36 < (↑k14 : Int)) = false →
        ((bif decide (n35 < 0) then true else bif decide (n31 ≥ n30) then true else decide (n31 < 0)) = true → Q (Value.bool false) H37) ∧
        ((bif decide (n35 < 0) then true else bif decide (n31 ≥ n30) then true else decide (n31 < 0)) = false →
        Ob (a13 ≠ none ∧ 0 ≤ n35 ∧ n35 < (↑k14 : Int)) ∧
        Ob (elemA a13 n35 2 ≠ none) ∧
        ∃ H41,
        Writes H37 H41 (fldA (elemA a13 n35 2) 0) [Value.int IntKind.i64 n31] ∧
        Triple Proofs.Try.prog 9 #[Value.slice a13 k14 k15] H41 fun v42 H43 =>
        ∃ a44 k45 k46 b47,
        v42 = Value.tuple #[Value.slice a44 k45 k46, Value.bool b47] ∧
        ((!b47) = true → Q (Value.bool false) H43) ∧
        ((!b47) = false →
        R26 [Value.int IntKind.i64 (IntKind.i64.wrap (n28 + 1))] H43 ∧
        Less (M27 [Value.int IntKind.i64 (IntKind.i64.wrap (n28 + 1))] H43)
        (M27 [Value.int IntKind.i64 n28] H29))))) ∧
        (decide (n28 < (↑k24 : Int)) = false →
        ∃ (R48 : Rl) (M49 : Mu),
        R48 [Value.int IntKind.i64 0] H29 ∧
        ∀ (n50 : Int) (H51 : PHeap),
        R48 [Value.int IntKind.i64 n50] H51 →
        (decide (n50 < (↑k14 : Int)) = true →
        Ob (a13 ≠ none ∧ 0 ≤ n50 ∧ n50 < (↑k14 : Int)) ∧
        ∃ n52 n53,
        Reads H51 (elemA a13 n50 2) [Value.int IntKind.i64 n52, Value.int IntKind.i64 n53] ∧
        ∃ H54,
        Vx.Sub H54 H51 ∧
        Triple Proofs.Try.prog 10 #[Value.slice a13 k14 k15, Value.int IntKind.i64 n50] H51 fun v55 H56 =>
        ∃ n57,
        v55 = Value.int IntKind.i64 n57 ∧
        Vx.Sub H54 H56 ∧
        ((n52 != n57) = true → Q (Value.bool false) H56) ∧
        ((n52 != n57) = false →
        R48 [Value.int IntKind.i64 (IntKind.i64.wrap (n50 + 1))] H56 ∧
        Less (M49 [Value.int IntKind.i64 (IntKind.i64.wrap (n50 + 1))] H56) (M49 [Value.int IntKind.i64 n50] H51))) ∧
        (decide (n50 < (↑k14 : Int)) = false →
        Triple Proofs.Try.prog 6 #[] H51 fun v58 H59 => ∃ b60, v58 = Value.bool b60 ∧ Q (Value.bool b60) H59)))) ∧
  (decide ((↑k2 : Int) > 60) = !false → Triple Proofs.Try.prog 6 #[] H fun v61 H62 => ∃ b63, v61 = Value.bool b63 ∧ Q (Value.bool b63) H62)) :
    Triple Go.Proofs.Try.prog 3 ([Value.slice a1 k2 k3]).toArray H Q :=
  Triple.of_vc packs.cx (by kernel_rfl) h

end Go.Vc
