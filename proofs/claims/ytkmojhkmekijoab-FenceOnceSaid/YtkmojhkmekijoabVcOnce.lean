/- What is to be shown of each function, in its normal form. Printed by a program of this session's, checked by the kernel. -/
import Derived.Test.YtkmojhkmekijoabVxN
import Derived.Test.YtkmojhkmekijoabProg
set_option linter.unusedVariables false
set_option maxRecDepth 100000
namespace Go.Vc
open Go.Vx Go
def alive.cx : Cx := ⟨[], [], []⟩
def once.cx : Cx := ⟨[], [(5, [5, 26], [2]), (20, [66], [])], []⟩

theorem alive.vc (H : PHeap) (Q : Value → PHeap → Prop)
    (h : Triple Proofs.Try.prog 10 #[Value.agg #[Value.int IntKind.i64 0, Value.int IntKind.i64 0, Value.int IntKind.i64 0], Value.int IntKind.i64 5] H fun v1 H2 =>
  ∃ n3 n4 n5 n6,
    v1 = Value.tuple #[Value.agg #[Value.int IntKind.i64 n3, Value.int IntKind.i64 n4, Value.int IntKind.i64 n5], Value.int IntKind.i64 n6] ∧
      Triple Proofs.Try.prog 10 #[Value.agg #[Value.int IntKind.i64 n3, Value.int IntKind.i64 n4, Value.int IntKind.i64 n5], Value.int IntKind.i64 4] H2 fun v7 H8 =>
        ∃ n9 n10 n11 n12,
        v7 = Value.tuple #[Value.agg #[Value.int IntKind.i64 n9, Value.int IntKind.i64 n10, Value.int IntKind.i64 n11], Value.int IntKind.i64 n12] ∧
        Triple Proofs.Try.prog 9 #[Value.agg #[Value.int IntKind.i64 n3, Value.int IntKind.i64 n4, Value.int IntKind.i64 n5]] H8 fun v13 H14 =>
        ∃ n15 n16 n17 b18,
        v13 = Value.tuple #[Value.agg #[Value.int IntKind.i64 n15, Value.int IntKind.i64 n16, Value.int IntKind.i64 n17], Value.bool b18] ∧
        Triple Proofs.Try.prog 9 #[Value.agg #[Value.int IntKind.i64 n15, Value.int IntKind.i64 n16, Value.int IntKind.i64 n17]] H14 fun v19 H20 =>
        ∃ n21 n22 n23 b24,
        v19 = Value.tuple #[Value.agg #[Value.int IntKind.i64 n21, Value.int IntKind.i64 n22, Value.int IntKind.i64 n23], Value.bool b24] ∧
        Triple Proofs.Try.prog 8 #[Value.agg #[Value.int IntKind.i64 6, Value.int IntKind.i64 5, Value.int IntKind.i64 2]] H20 fun v25 H26 =>
        ∃ n27 n28 n29 b30,
        v25 = Value.tuple #[Value.agg #[Value.int IntKind.i64 n27, Value.int IntKind.i64 n28, Value.int IntKind.i64 n29], Value.bool b30] ∧
        Q
        (Value.bool
        (bif n3 == 5 && (n4 == 5 && n5 == 2) then
        bif n6 == 3 then bif n12 == 1 then bif !b18 then bif !b24 then bif b30 then n29 == 1 else false else false else false else false else false
        else false))
        H26) :
    Triple Go.Proofs.Try.prog 6 ([]).toArray H Q :=
  Triple.of_vc alive.cx (by kernel_rfl) h

theorem once.vc (n1 : Int) (n2 : Int) (n3 : Int) (a4 : Option Addr) (k5 : Nat) (k6 : Nat) (H : PHeap) (Q : Value → PHeap → Prop)
    (h : Triple Proofs.Try.prog 5 #[Value.agg #[Value.int IntKind.i64 n1, Value.int IntKind.i64 n2, Value.int IntKind.i64 n3]] H fun v7 H8 =>
  ∃ b9,
    v7 = Value.bool b9 ∧
      ((bif !b9 then true else decide ((↑k5 : Int) > 100)) = true → Triple Proofs.Try.prog 6 #[] H8 fun v10 H11 => ∃ b12, v10 = Value.bool b12 ∧ Q (Value.bool b12) H11) ∧
        ((bif !b9 then true else decide ((↑k5 : Int) > 100)) = false →
        ∃ (R13 : Rl) (M14 : Mu),
        R13 [Value.slice none 0 0, Value.int IntKind.i64 0, Value.agg #[Value.int IntKind.i64 n1, Value.int IntKind.i64 n2, Value.int IntKind.i64 n3]] H8 ∧
        ∀ (a15 : Option Addr) (k16 k17 : Nat) (n18 n19 n20 n21 : Int) (H22 : PHeap),
        R13 [Value.slice a15 k16 k17, Value.int IntKind.i64 n18, Value.agg #[Value.int IntKind.i64 n19, Value.int IntKind.i64 n20, Value.int IntKind.i64 n21]] H22 →
        (decide (n18 < (↑k5 : Int)) = true →
        Ob (a4 ≠ none ∧ 0 ≤ n18 ∧ n18 < (↑k5 : Int)) ∧
        ∃ n23,
        Reads H22 (elemA a4 n18 1) [Value.int IntKind.i64 n23] ∧
        ((n23 == -2) = true →
        Triple Proofs.Try.prog 7 #[Value.agg #[Value.int IntKind.i64 n19, Value.int IntKind.i64 n20, Value.int IntKind.i64 n21]] H22 fun v24 H25 =>
        ∃ n26 n27 n28,
        v24 = Value.agg #[Value.int IntKind.i64 n26, Value.int IntKind.i64 n27, Value.int IntKind.i64 n28] ∧
        Triple Proofs.Try.prog 5 #[Value.agg #[Value.int IntKind.i64 n26, Value.int IntKind.i64 n27, Value.int IntKind.i64 n28]] H25 fun v29 H30 =>
        ∃ b31,
        v29 = Value.bool b31 ∧
        ((bif !b31 then true else bif decide (n26 < n19) then true else decide (n27 < n20)) = true → Q (Value.bool false) H30) ∧
        ((bif !b31 then true else bif decide (n26 < n19) then true else decide (n27 < n20)) = false →
        R13
        [Value.slice a15 k16 k17, Value.int IntKind.i64 (IntKind.i64.wrap (n18 + 1)),
        Value.agg #[Value.int IntKind.i64 n26, Value.int IntKind.i64 n27, Value.int IntKind.i64 n28]]
        H30 ∧
        Less
        (M14
        [Value.slice a15 k16 k17, Value.int IntKind.i64 (IntKind.i64.wrap (n18 + 1)),
        Value.agg #[Value.int IntKind.i64 n26, Value.int IntKind.i64 n27, Value.int IntKind.i64 n28]]
        H30)
        (M14
        [Value.slice a15 k16 k17, Value.int IntKind.i64 n18, Value.agg #[Value.int IntKind.i64 n19, Value.int IntKind.i64 n20, Value.int IntKind.i64 n21]]
        H22))) ∧
        ((n23 == -2) = false →
        ((n23 == -3) = true →
        Triple Proofs.Try.prog 8 #[Value.agg #[Value.int IntKind.i64 n19, Value.int IntKind.i64 n20, Value.int IntKind.i64 n21]] H22 fun v32 H33 =>
        ∃ n34 n35 n36 b37,
        v32 = Value.tuple #[Value.agg #[Value.int IntKind.i64 n34, Value.int IntKind.i64 n35, Value.int IntKind.i64 n36], Value.bool b37] ∧
        ((bif b37 then bif n21 == 2 then n20 == n19 else false else false) = true → Q (Value.bool false) H33) ∧
        ((bif b37 then bif n21 == 2 then n20 == n19 else false else false) = false →
        Triple Proofs.Try.prog 5 #[Value.agg #[Value.int IntKind.i64 n34, Value.int IntKind.i64 n35, Value.int IntKind.i64 n36]] H33 fun v38 H39 =>
        ∃ b40,
        v38 = Value.bool b40 ∧
        ((bif !b40 then true else bif decide (n34 < n19) then true else decide (n35 < n20)) = true → Q (Value.bool false) H39) ∧
        ((bif !b40 then true else bif decide (n34 < n19) then true else decide (n35 < n20)) = false →
        R13
        [Value.slice a15 k16 k17, Value.int IntKind.i64 (IntKind.i64.wrap (n18 + 1)),
        Value.agg #[Value.int IntKind.i64 n34, Value.int IntKind.i64 n35, Value.int IntKind.i64 n36]]
        H39 ∧
        Less
        (M14
        [Value.slice a15 k16 k17, Value.int IntKind.i64 (IntKind.i64.wrap (n18 + 1)),
        Value.agg #[Value.int IntKind.i64 n34, Value.int IntKind.i64 n35, Value.int IntKind.i64 n36]]
        H39)
        (M14
        [Value.slice a15 k16 k17, Value.int IntKind.i64 n18,
        Value.agg #[Value.int IntKind.i64 n19, Value.int IntKind.i64 n20, Value.int IntKind.i64 n21]]
        H22)))) ∧
        ((n23 == -3) = false →
        (decide (n23 < 0) = true →
        Triple Proofs.Try.prog 9 #[Value.agg #[Value.int IntKind.i64 n19, Value.int IntKind.i64 n20, Value.int IntKind.i64 n21]] H22 fun v41 H42 =>
        ∃ n43 n44 n45 b46,
        v41 = Value.tuple #[Value.agg #[Value.int IntKind.i64 n43, Value.int IntKind.i64 n44, Value.int IntKind.i64 n45], Value.bool b46] ∧
        (b46 = true →
        ∃ (R47 : Rl) (M48 : Mu),
        R47 [Value.int IntKind.i64 0] H42 ∧
        ∀ (n49 : Int) (H50 : PHeap),
        R47 [Value.int IntKind.i64 n49] H50 →
        (decide (n49 < (↑k16 : Int)) = true →
        Ob (a15 ≠ none ∧ 0 ≤ n49 ∧ n49 < (↑k16 : Int)) ∧
        ∃ n51,
        Reads H50 (elemA a15 n49 1) [Value.int IntKind.i64 n51] ∧
        ((n51 == n43) = true → Q (Value.bool false) H50) ∧
        ((n51 == n43) = false →
        R47 [Value.int IntKind.i64 (IntKind.i64.wrap (n49 + 1))] H50 ∧
        Less (M48 [Value.int IntKind.i64 (IntKind.i64.wrap (n49 + 1))] H50) (M48 [Value.int IntKind.i64 n49] H50))) ∧
        (decide (n49 < (↑k16 : Int)) = false →
        ∀ (k52 : Nat),
        H50 k52 = none →
        EvV Proofs.Try.prog (Builtin.append_ #[24, 24] 24 #[Value.slice a15 k16 k17, Value.slice (some { block := k52, off := 0 }) 1 1])
        (H50.upd k52 (Obj.cells #[Value.int IntKind.i64 n43] 3)) fun v53 H54 =>
        ∃ a55 k56 k57,
        v53 = Value.slice a55 k56 k57 ∧
        Triple Proofs.Try.prog 5 #[Value.agg #[Value.int IntKind.i64 n43, Value.int IntKind.i64 n44, Value.int IntKind.i64 n45]] H54
        fun v58 H59 =>
        ∃ b60,
        v58 = Value.bool b60 ∧
        ((bif !b60 then true else bif decide (n43 < n19) then true else decide (n44 < n20)) = true → Q (Value.bool false) H59) ∧
        ((bif !b60 then true else bif decide (n43 < n19) then true else decide (n44 < n20)) = false →
        R13
        [Value.slice a55 k56 k57, Value.int IntKind.i64 (IntKind.i64.wrap (n18 + 1)),
        Value.agg #[Value.int IntKind.i64 n43, Value.int IntKind.i64 n44, Value.int IntKind.i64 n45]]
        H59 ∧
        Less
        (M14
        [Value.slice a55 k56 k57, Value.int IntKind.i64 (IntKind.i64.wrap (n18 + 1)),
        Value.agg #[Value.int IntKind.i64 n43, Value.int IntKind.i64 n44, Value.int IntKind.i64 n45]]
        H59)
        (M14
        [Value.slice a15 k16 k17, Value.int IntKind.i64 n18,
        Value.agg #[Value.int IntKind.i64 n19, Value.int IntKind.i64 n20, Value.int IntKind.i64 n21]]
        H22)))) ∧
        (b46 = false →
        Triple Proofs.Try.prog 5 #[Value.agg #[Value.int IntKind.i64 n43, Value.int IntKind.i64 n44, Value.int IntKind.i64 n45]] H42 fun v61 H62 =>
        ∃ b63,
        v61 = Value.bool b63 ∧
        ((bif !b63 then true else bif decide (n43 < n19) then true else decide (n44 < n20)) = true → Q (Value.bool false) H62) ∧
        ((bif !b63 then true else bif decide (n43 < n19) then true else decide (n44 < n20)) = false →
        R13
        [Value.slice a15 k16 k17, Value.int IntKind.i64 (IntKind.i64.wrap (n18 + 1)),
        Value.agg #[Value.int IntKind.i64 n43, Value.int IntKind.i64 n44, Value.int IntKind.i64 n45]]
        H62 ∧
        Less
        (M14
        [Value.slice a15 k16 k17, Value.int IntKind.i64 (IntKind.i64.wrap (n18 + 1)),
        Value.agg #[Value.int IntKind.i64 n43, Value.int IntKind.i64 n44, Value.int IntKind.i64 n45]]
        H62)
        (M14
        [Value.slice a15 k16 k17, Value.int IntKind.i64 n18,
        Value.agg #[Value.int IntKind.i64 n19, Value.int IntKind.i64 n20, Value.int IntKind.i64 n21]]
        H22)))) ∧
        (decide (n23 < 0) = false →
        Triple Proofs.Try.prog 10 #[Value.agg #[Value.int IntKind.i64 n19, Value.int IntKind.i64 n20, Value.int IntKind.i64 n21], Value.int IntKind.i64 n23] H22
        fun v64 H65 =>
        ∃ n66 n67 n68 n69,
        v64 = Value.tuple #[Value.agg #[Value.int IntKind.i64 n66, Value.int IntKind.i64 n67, Value.int IntKind.i64 n68], Value.int IntKind.i64 n69] ∧
        ((bif decide (n23 ≤ 4294967295) then
        bif decide (n23 > n19) then bif !(n69 == 3) == true then true else bif n69 == 1 then !(n66 == n19 && (n67 == n20 && n68 == n21)) else false
        else bif !(n69 == 3) == (n21 == 0) then true else bif n69 == 1 then !(n66 == n19 && (n67 == n20 && n68 == n21)) else false
        else bif !(n69 == 3) == false then true else bif n69 == 1 then !(n66 == n19 && (n67 == n20 && n68 == n21)) else false) =
        true →
        Q (Value.bool false) H65) ∧
        ((bif decide (n23 ≤ 4294967295) then
        bif decide (n23 > n19) then bif !(n69 == 3) == true then true else bif n69 == 1 then !(n66 == n19 && (n67 == n20 && n68 == n21)) else false
        else bif !(n69 == 3) == (n21 == 0) then true else bif n69 == 1 then !(n66 == n19 && (n67 == n20 && n68 == n21)) else false
        else bif !(n69 == 3) == false then true else bif n69 == 1 then !(n66 == n19 && (n67 == n20 && n68 == n21)) else false) =
        false →
        Triple Proofs.Try.prog 5 #[Value.agg #[Value.int IntKind.i64 n66, Value.int IntKind.i64 n67, Value.int IntKind.i64 n68]] H65 fun v70 H71 =>
        ∃ b72,
        v70 = Value.bool b72 ∧
        ((bif !b72 then true else bif decide (n66 < n19) then true else decide (n67 < n20)) = true → Q (Value.bool false) H71) ∧
        ((bif !b72 then true else bif decide (n66 < n19) then true else decide (n67 < n20)) = false →
        R13
        [Value.slice a15 k16 k17, Value.int IntKind.i64 (IntKind.i64.wrap (n18 + 1)),
        Value.agg #[Value.int IntKind.i64 n66, Value.int IntKind.i64 n67, Value.int IntKind.i64 n68]]
        H71 ∧
        Less
        (M14
        [Value.slice a15 k16 k17, Value.int IntKind.i64 (IntKind.i64.wrap (n18 + 1)),
        Value.agg #[Value.int IntKind.i64 n66, Value.int IntKind.i64 n67, Value.int IntKind.i64 n68]]
        H71)
        (M14
        [Value.slice a15 k16 k17, Value.int IntKind.i64 n18,
        Value.agg #[Value.int IntKind.i64 n19, Value.int IntKind.i64 n20, Value.int IntKind.i64 n21]]
        H22))))))) ∧
        (decide (n18 < (↑k5 : Int)) = false → Triple Proofs.Try.prog 6 #[] H22 fun v73 H74 => ∃ b75, v73 = Value.bool b75 ∧ Q (Value.bool b75) H74))) :
    Triple Go.Proofs.Try.prog 3 ([Value.agg #[Value.int IntKind.i64 n1, Value.int IntKind.i64 n2, Value.int IntKind.i64 n3], Value.slice a4 k5 k6]).toArray H Q :=
  Triple.of_vc once.cx (by kernel_rfl) h

end Go.Vc
