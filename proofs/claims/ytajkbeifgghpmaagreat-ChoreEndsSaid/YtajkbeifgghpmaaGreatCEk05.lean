/- What is to be shown of each function, in its normal form.  · The contracts of plans: which may be, and how many must tell that there is nothing. · What is to be shown of each function, in its normal form.  · What counts, by what several say: the plain words, and the contracts of its small functions. · What counts: the contract of settle.Settle. · An agreement in plain words: its state, its steps, and what is so of them. No program is in sight. · What is to be shown of each function, in its normal form.  -/
import Derived.Test.YtajkbeifgghpmaaGreatProg
import Derived.Test.YtajkbeifgghpmaaGreatCEk04
set_option linter.unusedVariables false
set_option maxRecDepth 100000
namespace Go.Vc
open Go.Vx Go
def planRight.cx : Cx := ⟨[], [], [], []⟩
def planIn.cx : Cx := ⟨[], [], [], []⟩
def planQuorum.cx : Cx := ⟨[1], [], [], []⟩
def planQuorum1.cx : Cx := ⟨[], [], [], []⟩
def planOfI.cx : Cx := ⟨[], [], [], []⟩
def refPRight.cx : Cx := ⟨[], [], [], []⟩
theorem planRight.vc (n1 : Int) (n2 : Int) (n3 : Int) (n4 : Int) (n5 : Int) (n6 : Int) (H : PHeap) (Q : Value → PHeap → Prop)
 (h : Triple Proofs.Tryz.prog 52 #[Value.int IntKind.i64 n2, Value.int IntKind.i64 1, Value.int IntKind.i64 256] H fun v7 H8 =>
 ∃ b9,
 v7 = Value.bool b9 ∧
 ((!b9) = false →
 Triple Proofs.Tryz.prog 52 #[Value.int IntKind.i64 n3, Value.int IntKind.i64 1, Value.int IntKind.i64 256] H8 fun v10 H11 =>
 ∃ b12,
 v10 = Value.bool b12 ∧
 ((!b12) = false →
 Triple Proofs.Tryz.prog 52 #[Value.int IntKind.i64 n4, Value.int IntKind.i64 1, Value.int IntKind.i64 256] H11 fun v13 H14 =>
 ∃ b15,
 v13 = Value.bool b15 ∧
 ((!b15) = false →
 Triple Proofs.Tryz.prog 52 #[Value.int IntKind.i64 n1, Value.int IntKind.i64 1, Value.int IntKind.i64 256] H14 fun v16 H17 =>
 ∃ b18,
 v16 = Value.bool b18 ∧
 ((!b18) = true → Q (Value.bool false) H17) ∧
 ((!b18) = false →
 (decide (IntKind.i64.wrap (n2 + n3) ≤ n4) = true →
 (decide (n4 ≤ n1) = true →
 (decide (IntKind.i64.wrap (n1 + n3) ≤ 256) = true →
 Triple Proofs.Tryz.prog 52 #[Value.int IntKind.i64 n5, Value.int IntKind.i64 1, Value.int IntKind.i64 256] H17 fun v19 H20 =>
 ∃ b21,
 v19 = Value.bool b21 ∧
 (b21 = true →
 Triple Proofs.Tryz.prog 52 #[Value.int IntKind.i64 n6, Value.int IntKind.i64 1, Value.int IntKind.i64 64] H20 fun v22 H23 =>
 ∃ b24, v22 = Value.bool b24 ∧ Q (Value.bool b24) H23) ∧
 (b21 = !true → Q (Value.bool false) H20)) ∧
 (decide (IntKind.i64.wrap (n1 + n3) ≤ 256) = !true → Q (Value.bool false) H17)) ∧
 (decide (n4 ≤ n1) = !true → Q (Value.bool false) H17)) ∧
 (decide (IntKind.i64.wrap (n2 + n3) ≤ n4) = !true → Q (Value.bool false) H17))) ∧
 ((!b15) = !false → Q (Value.bool false) H14)) ∧
 ((!b12) = !false → Q (Value.bool false) H11)) ∧
 ((!b9) = !false → Q (Value.bool false) H8)) :
 Triple Go.Proofs.Tryz.prog 19 ([Value.agg #[Value.int IntKind.i64 n1, Value.int IntKind.i64 n2, Value.int IntKind.i64 n3, Value.int IntKind.i64 n4, Value.int IntKind.i64 n5, Value.int IntKind.i64 n6]]).toArray H Q :=
 Triple.of_vc planRight.cx (by kernel_rfl) h
theorem planIn.vc (n1 : Int) (n2 : Int) (n3 : Int) (H : PHeap) (Q : Value → PHeap → Prop)
 (h : Q (Value.bool (bif decide (n1 ≥ n2) then decide (n1 ≤ n3) else false)) H) :
 Triple Go.Proofs.Tryz.prog 52 ([Value.int IntKind.i64 n1, Value.int IntKind.i64 n2, Value.int IntKind.i64 n3]).toArray H Q :=
 Triple.of_vc planIn.cx (by kernel_rfl) h
theorem planQuorum.vc (n1 : Int) (n2 : Int) (n3 : Int) (n4 : Int) (n5 : Int) (n6 : Int) (H : PHeap) (Q : Value → PHeap → Prop)
 (h : ∀ (k7 : Nat),
 H k7 = none →
 ∃ n8 n9 n10 n11 n12 n13,
 Reads (H.upd k7 (Obj.cells #[Value.int IntKind.i64 n1, Value.int IntKind.i64 n2, Value.int IntKind.i64 n3, Value.int IntKind.i64 n4, Value.int IntKind.i64 n5, Value.int IntKind.i64 n6] 23))
 (at0 k7)
 [Value.int IntKind.i64 n8, Value.int IntKind.i64 n9, Value.int IntKind.i64 n10, Value.int IntKind.i64 n11, Value.int IntKind.i64 n12, Value.int IntKind.i64 n13] ∧
 Triple Proofs.Tryz.prog 139
 #[Value.agg #[Value.int IntKind.i64 n8, Value.int IntKind.i64 n9, Value.int IntKind.i64 n10, Value.int IntKind.i64 n11, Value.int IntKind.i64 n12, Value.int IntKind.i64 n13],
 Value.func (Fn.func 150) #[] #[Value.pointer (at0 k7)]]
 (H.upd k7 (Obj.cells #[Value.int IntKind.i64 n1, Value.int IntKind.i64 n2, Value.int IntKind.i64 n3, Value.int IntKind.i64 n4, Value.int IntKind.i64 n5, Value.int IntKind.i64 n6] 23))
 fun v14 H15 => ∃ n16, v14 = Value.int IntKind.i64 n16 ∧ Q (Value.int IntKind.i64 n16) H15) :
 Triple Go.Proofs.Tryz.prog 124 ([Value.agg #[Value.int IntKind.i64 n1, Value.int IntKind.i64 n2, Value.int IntKind.i64 n3, Value.int IntKind.i64 n4, Value.int IntKind.i64 n5, Value.int IntKind.i64 n6]]).toArray H Q :=
 Triple.of_vc planQuorum.cx (by kernel_rfl) h
theorem planQuorum1.vc (a1 : Option Addr) (H : PHeap) (Q : Value → PHeap → Prop)
 (h : Ob (a1 ≠ none) ∧
 ∃ n2,
 Reads H (fldA a1 0) [Value.int IntKind.i64 n2] ∧
 Ob (a1 ≠ none) ∧ ∃ n3, Reads H (fldA a1 3) [Value.int IntKind.i64 n3] ∧ Q (Value.int IntKind.i64 (IntKind.i64.wrap (IntKind.i64.wrap (n2 - n3) + 1))) H) :
 Triple Go.Proofs.Tryz.prog 150 ([Value.pointer a1]).toArray H Q :=
 Triple.of_vc planQuorum1.cx (by kernel_rfl) h
theorem planOfI.vc (n1 : Int) (n2 : Int) (n3 : Int) (n4 : Int) (n5 : Int) (n6 : Int) (v7 : Value) (H : PHeap) (Q : Value → PHeap → Prop)
 (h : Triple Proofs.Tryz.prog 19 #[Value.agg #[Value.int IntKind.i64 n1, Value.int IntKind.i64 n2, Value.int IntKind.i64 n3, Value.int IntKind.i64 n4, Value.int IntKind.i64 n5, Value.int IntKind.i64 n6]] H
 fun v8 H9 =>
 ∃ b10,
 v8 = Value.bool b10 ∧
 ((!b10) = true → Q (Value.int IntKind.i64 0) H9) ∧ ((!b10) = false → CallY Proofs.Tryz.prog v7 #[] H9 fun v11 H12 => ∃ n13, v11 = Value.int IntKind.i64 n13 ∧ Q (Value.int IntKind.i64 n13) H12)) :
 Triple Go.Proofs.Tryz.prog 139 ([Value.agg #[Value.int IntKind.i64 n1, Value.int IntKind.i64 n2, Value.int IntKind.i64 n3, Value.int IntKind.i64 n4, Value.int IntKind.i64 n5, Value.int IntKind.i64 n6], v7]).toArray H Q :=
 Triple.of_vc planOfI.cx (by kernel_rfl) h
theorem refPRight.vc (n1 : Int) (n2 : Int) (n3 : Int) (n4 : Int) (n5 : Int) (n6 : Int) (H : PHeap) (Q : Value → PHeap → Prop)
 (h : ((bif decide (n2 < 1) then true
 else bif decide (n3 < 1) then true else bif decide (n1 > 256) then true else bif decide (n4 > n1) then true else bif decide (n2 > 256) then true else decide (n3 > 256)) =
 true →
 Q (Value.bool false) H) ∧
 ((bif decide (n2 < 1) then true
 else bif decide (n3 < 1) then true else bif decide (n1 > 256) then true else bif decide (n4 > n1) then true else bif decide (n2 > 256) then true else decide (n3 > 256)) =
 false →
 Q
 (Value.bool
 (bif decide (IntKind.i64.wrap (n2 + n3) ≤ n4) then
 bif decide (IntKind.i64.wrap (n1 + n3) ≤ 256) then bif decide (n5 ≥ 1) then bif decide (n5 ≤ 256) then bif decide (n6 ≥ 1) then decide (n6 ≤ 64) else false else false else false else false
 else false))
 H)) :
 Triple Go.Proofs.Tryz.prog 16 ([Value.agg #[Value.int IntKind.i64 n1, Value.int IntKind.i64 n2, Value.int IntKind.i64 n3, Value.int IntKind.i64 n4, Value.int IntKind.i64 n5, Value.int IntKind.i64 n6]]).toArray H Q :=
 Triple.of_vc refPRight.cx (by kernel_rfl) h
end Go.Vc
namespace Go.Pln
open Go.Vx Go.Vc Go.Proofs
structure Plan where
  n : Int
  t : Int
  l : Int
  w : Int
  s : Int
  r : Int
abbrev vI (n : Int) : Value := .int .i64 n
abbrev Plan.v (p : Plan) : Value := .agg #[vI p.n, vI p.t, vI p.l, vI p.w, vI p.s, vI p.r]
/-- A plan may be. -/
structure Plan.Ok (p : Plan) : Prop where
  t1 : 1 ≤ p.t
  t2 : p.t ≤ 256
  l1 : 1 ≤ p.l
  l2 : p.l ≤ 256
  w1 : 1 ≤ p.w
  w2 : p.w ≤ 256
  n1 : 1 ≤ p.n
  n2 : p.n ≤ 256
  tl : p.t + p.l ≤ p.w
  wn : p.w ≤ p.n
  nl : p.n + p.l ≤ 256
  s1 : 1 ≤ p.s
  s2 : p.s ≤ 256
  r1 : 1 ≤ p.r
  r2 : p.r ≤ 64
def Plan.ok (p : Plan) : Bool := decide (1 ≤ p.t ∧ p.t ≤ 256 ∧ 1 ≤ p.l ∧ p.l ≤ 256 ∧ 1 ≤ p.w ∧ p.w ≤ 256 ∧ 1 ≤ p.n ∧ p.n ≤ 256 ∧ p.t + p.l ≤ p.w ∧ p.w ≤ p.n ∧ p.n + p.l ≤ 256 ∧ 1 ≤ p.s ∧ p.s ≤ 256 ∧ 1 ≤ p.r ∧ p.r ≤ 64)
theorem Plan.ok_iff {p : Plan} : p.ok = true ↔ p.Ok := by
  unfold Plan.ok
  rw [decide_eq_true_eq]
  exact ⟨fun ⟨a, b, c, d, e, f, g, h, i, j, k, l, m, n, o⟩ => ⟨a, b, c, d, e, f, g, h, i, j, k, l, m, n, o⟩, fun ⟨a, b, c, d, e, f, g, h, i, j, k, l, m, n, o⟩ => ⟨a, b, c, d, e, f, g, h, i, j, k, l, m, n, o⟩⟩
theorem ok_false {p : Plan} (h : ¬ p.Ok) : p.ok = false := by
  cases e : p.ok with
  | false => rfl
  | true => exact absurd (Plan.ok_iff.1 e) h
theorem in_ok (n lo hi : Int) : Pure Tryz.prog 52 #[vI n, vI lo, vI hi] (.bool (decide (lo ≤ n ∧ n ≤ hi))) := fun H => by
  refine planIn.vc n lo hi H _ ⟨?_, rfl⟩
  congr 1
  by_cases h1 : n ≥ lo <;> by_cases h2 : n ≤ hi <;> simp [h1, h2] <;> omega
theorem right_ok (p : Plan) : Pure Tryz.prog 19 #[p.v] (.bool p.ok) := fun H => by
  have no : ∀ {b : Bool}, b = false → ¬ p.Ok → Value.bool b = .bool p.ok := fun hb h => by rw [ok_false h, hb]
  refine planRight.vc p.n p.t p.l p.w p.s p.r H _ ((in_ok _ _ _).use ⟨_, rfl, fun e1 => (in_ok _ _ _).use ⟨_, rfl, fun e2 => (in_ok _ _ _).use ⟨_, rfl, fun e3 => (in_ok _ _ _).use ⟨_, rfl, fun e4 => ?_, fun e4 => ?_⟩, fun e3 => ?_⟩, fun e2 => ?_⟩, fun e1 => ?_⟩)
  · exact ⟨no rfl fun h => by have := h.n1; have := h.n2; simp at e4; omega, rfl⟩
  · have h1 : 1 ≤ p.t ∧ p.t ≤ 256 := by simpa using e1
    have h2 : 1 ≤ p.l ∧ p.l ≤ 256 := by simpa using e2
    have h3 : 1 ≤ p.w ∧ p.w ≤ 256 := by simpa using e3
    have h4 : 1 ≤ p.n ∧ p.n ≤ 256 := by simpa using e4
    rw [wrap64 (n := p.t + p.l) (by omega) (by omega), wrap64 (n := p.n + p.l) (by omega) (by omega)]
    refine ⟨fun e5 => ⟨fun e6 => ⟨fun e7 => (in_ok _ _ _).use ⟨_, rfl, fun e8 => (in_ok _ _ _).use ⟨_, rfl, ?_, rfl⟩, fun e8 => ?_⟩, fun e7 => ?_⟩, fun e6 => ?_⟩, fun e5 => ?_⟩
    · have h5 : p.t + p.l ≤ p.w := by simpa using e5
      have h6 : p.w ≤ p.n := by simpa using e6
      have h7 : p.n + p.l ≤ 256 := by simpa using e7
      have h8 : 1 ≤ p.s ∧ p.s ≤ 256 := by simpa using e8
      congr 1
      rw [Bool.eq_iff_iff, decide_eq_true_eq, Plan.ok_iff]
      exact ⟨fun ⟨a, b⟩ => ⟨h1.1, h1.2, h2.1, h2.2, h3.1, h3.2, h4.1, h4.2, h5, h6, h7, h8.1, h8.2, a, b⟩, fun h => ⟨h.r1, h.r2⟩⟩
    · exact ⟨no rfl fun h => by have := h.s1; have := h.s2; simp at e8; omega, rfl⟩
    · exact ⟨no rfl fun h => by have := h.nl; simp at e7; omega, rfl⟩
    · exact ⟨no rfl fun h => by have := h.wn; simp at e6; omega, rfl⟩
    · exact ⟨no rfl fun h => by have := h.tl; simp at e5; omega, rfl⟩
  · exact ⟨no rfl fun h => by have := h.w1; have := h.w2; simp at e3; omega, rfl⟩
  · exact ⟨no rfl fun h => by have := h.l1; have := h.l2; simp at e2; omega, rfl⟩
  · exact ⟨no rfl fun h => by have := h.t1; have := h.t2; simp at e1; omega, rfl⟩
theorem refRight_ok (p : Plan) : Pure Tryz.prog 16 #[p.v] (.bool p.ok) := fun H => by
  have e0 : ∀ a b c d e f : Bool, (bif a then true else bif b then true else bif c then true else bif d then true else bif e then true else f) = (a || b || c || d || e || f) := by
    intro a b c d e f; cases a <;> cases b <;> cases c <;> cases d <;> cases e <;> cases f <;> rfl
  have e9 : ∀ a b c d e f : Bool, (bif a then bif b then bif c then bif d then bif e then f else false else false else false else false else false) = (a && b && c && d && e && f) := by
    intro a b c d e f; cases a <;> cases b <;> cases c <;> cases d <;> cases e <;> cases f <;> rfl
  refine refPRight.vc p.n p.t p.l p.w p.s p.r H _ ?_
  rw [e0, e9]
  refine ⟨fun e => ⟨?_, rfl⟩, fun e => ⟨?_, rfl⟩⟩
  · have h : ¬ p.Ok := fun h => by
      obtain ⟨a, b, c, d, e1, f, g, h, i, j, k, l, m, n, o⟩ := h
      simp only [Bool.or_eq_true, decide_eq_true_eq] at e
      omega
    rw [ok_false h]
  · simp only [Bool.or_eq_false_iff, decide_eq_false_iff_not] at e
    obtain ⟨⟨⟨⟨⟨h1, h2⟩, h3⟩, h4⟩, h5⟩, h6⟩ := e
    rw [wrap64 (n := p.t + p.l) (by omega) (by omega)]
    congr 1
    by_cases h7 : p.t + p.l ≤ p.w
    · rw [wrap64 (n := p.n + p.l) (by omega) (by omega), Bool.eq_iff_iff, Plan.ok_iff]
      simp only [Bool.and_eq_true, decide_eq_true_eq]
      exact ⟨fun ⟨⟨⟨⟨⟨a, b⟩, c⟩, d⟩, e⟩, f⟩ => ⟨by omega, by omega, by omega, by omega, by omega, by omega, by omega, by omega, a, by omega, b, c, d, e, f⟩, fun h => ⟨⟨⟨⟨⟨h.tl, h.nl⟩, h.s1⟩, h.s2⟩, h.r1⟩, h.r2⟩⟩
    · rw [ok_false fun h => h7 h.tl, decide_eq_false h7]; simp
theorem quorum_ok (H : PHeap) (p : Plan) : Triple Tryz.prog 124 #[p.v] H fun v H' => v = vI (if p.ok then p.n - p.w + 1 else 0) ∧ Sub H H' := by
  refine planQuorum.vc p.n p.t p.l p.w p.s p.r H _ fun k7 hk7 => ?_
  have hs := Sub.upd (.cells #[vI p.n, vI p.t, vI p.l, vI p.w, vI p.s, vI p.r] 23 (0, 0)) hk7
  have hb := Bx.new H k7 23 [vI p.n, vI p.t, vI p.l, vI p.w, vI p.s, vI p.r]
  refine ⟨p.n, p.t, p.l, p.w, p.s, p.r, hb.reads, planOfI.vc p.n p.t p.l p.w p.s p.r _ _ _ ((right_ok p).use ⟨_, rfl, fun e => ⟨_, rfl, ?_, hs⟩, fun e => CallY.fn (by kernel_rfl) (planQuorum1.vc (at0 k7) _ _ ⟨obP k7, p.n, hb.fld rfl, obP k7, p.w, hb.fld rfl, _, rfl, _, rfl, ?_, hs⟩)⟩)⟩
  · have : p.ok = false := by simpa using e
    rw [this]; rfl
  · have h : p.ok = true := by simpa using e
    have hp := Plan.ok_iff.1 h
    have := hp.n1; have := hp.n2; have := hp.w1; have := hp.w2
    rw [h, if_pos rfl, wrap64 (n := p.n - p.w) (by omega) (by omega), wrap64 (by omega) (by omega)]
end Go.Pln
namespace Go.Vc
open Go.Vx Go
def sSettle.cx : Cx := ⟨[5], [(5, [20], []), (15, [72], [])], [], []⟩
def sSettle1.cx : Cx := ⟨[], [], [], []⟩
def sValue.cx : Cx := ⟨[], [], [], []⟩
def sCount.cx : Cx := ⟨[], [(3, [5, 12], []), (6, [18], [])], [], []⟩
def sSound.cx : Cx := ⟨[], [], [], []⟩
def sLeft.cx : Cx := ⟨[], [], [], []⟩
def sMarked.cx : Cx := ⟨[], [], [], []⟩
def sHold.cx : Cx := ⟨[], [(3, [5, 10], [])], [], []⟩
def sWho.cx : Cx := ⟨[], [], [], []⟩
def fixOf.cx : Cx := ⟨[], [], [], []⟩
def rHold.cx : Cx := ⟨[], [(3, [5, 6], [])], [], []⟩
theorem sSettle.vc (n1 : Int) (n2 : Int) (n3 : Int) (n4 : Int) (n5 : Int) (n6 : Int) (a7 : Option Addr) (k8 : Nat) (k9 : Nat) (H : PHeap) (Q : Value → PHeap → Prop)
 (h : ∀ (k10 : Nat),
 H k10 = none →
 Triple Proofs.Tryz.prog 19
 #[Value.agg #[Value.int IntKind.i64 n1, Value.int IntKind.i64 n2, Value.int IntKind.i64 n3, Value.int IntKind.i64 n4, Value.int IntKind.i64 n5, Value.int IntKind.i64 n6]]
 (H.upd k10
 (Obj.cells #[Value.bool false, Value.bool false, Value.bool false, Value.int IntKind.i64 0, Value.int IntKind.i64 0, Value.int IntKind.i64 0, Value.int IntKind.i64 0, Value.slice none 0 0]
 166))
 fun v11 H12 =>
 ∃ b13,
 v11 = Value.bool b13 ∧
 ((!b13) = true →
 ∃ b14 b15 b16 n17 n18 n19 n20 a21 k22 k23,
 Reads H12 (at0 k10)
 [Value.bool b14, Value.bool b15, Value.bool b16, Value.int IntKind.i64 n17, Value.int IntKind.i64 n18, Value.int IntKind.i64 n19, Value.int IntKind.i64 n20,
 Value.slice a21 k22 k23] ∧
 Q
 (Value.agg
 #[Value.bool b14, Value.bool b15, Value.bool b16, Value.int IntKind.i64 n17, Value.int IntKind.i64 n18, Value.int IntKind.i64 n19, Value.int IntKind.i64 n20,
 Value.slice a21 k22 k23])
 H12) ∧
 ((!b13) = false →
 ∃ (R24 : Rl) (M25 : Mu),
 R24 [Value.int IntKind.i64 0] H12 ∧
 ∀ (n26 : Int) (H27 : PHeap),
 R24 [Value.int IntKind.i64 n26] H27 →
 (decide (n26 < (↑k8 : Int)) = true →
 Ob (a7 ≠ none ∧ 0 ≤ n26 ∧ n26 < (↑k8 : Int)) ∧
 ∃ n28 n29 n30 n31 s32 n33 n34 n35 n36 n37 a38 k39 k40 a41 k42 k43 a44 k45 k46,
 Reads H27 (elemA a7 n26 13)
 [Value.int IntKind.i64 n28, Value.int IntKind.i64 n29, Value.int IntKind.i64 n30, Value.int IntKind.i64 n31, Value.string s32, Value.int IntKind.i64 n33,
 Value.int IntKind.i64 n34, Value.int IntKind.i64 n35, Value.int IntKind.i64 n36, Value.int IntKind.i64 n37, Value.slice a38 k39 k40, Value.slice a41 k42 k43,
 Value.slice a44 k45 k46] ∧
 Triple Proofs.Tryz.prog 158
 #[Value.agg
 #[Value.int IntKind.i64 n28, Value.int IntKind.i64 n29, Value.int IntKind.i64 n30, Value.int IntKind.i64 n31, Value.string s32, Value.int IntKind.i64 n33,
 Value.int IntKind.i64 n34, Value.int IntKind.i64 n35, Value.int IntKind.i64 n36, Value.int IntKind.i64 n37, Value.slice a38 k39 k40, Value.slice a41 k42 k43,
 Value.slice a44 k45 k46]]
 H27 fun v47 H48 =>
 ∃ b49 n50 n51 n52 b53,
 v47 = Value.tuple #[Value.agg #[Value.bool b49, Value.int IntKind.i64 n50, Value.int IntKind.i64 n51, Value.int IntKind.i64 n52], Value.bool b53] ∧
 (b53 = true →
 Ob (at0 k10 ≠ none) ∧
 ∃ n54,
 Reads H48 (fldA (at0 k10) 6) [Value.int IntKind.i64 n54] ∧
 (decide (n35 > n54) = true →
 ∃ H55,
 Vx.Sub H55 H48 ∧
 Ob (at0 k10 ≠ none) ∧
 ∃ H56,
 Writes H48 H56 (fldA (at0 k10) 6) [Value.int IntKind.i64 n35] ∧
 Vx.Sub H55 H56 ∧
 Ob (at0 k10 ≠ none) ∧
 ∃ H57,
 Writes H56 H57 (fldA (at0 k10) 2)
 [Value.bool b49, Value.int IntKind.i64 n50, Value.int IntKind.i64 n51, Value.int IntKind.i64 n52] ∧
 R24 [Value.int IntKind.i64 (IntKind.i64.wrap (n26 + 1))] H57 ∧
 Less (M25 [Value.int IntKind.i64 (IntKind.i64.wrap (n26 + 1))] H57) (M25 [Value.int IntKind.i64 n26] H27)) ∧
 (decide (n35 > n54) = false →
 R24 [Value.int IntKind.i64 (IntKind.i64.wrap (n26 + 1))] H48 ∧
 Less (M25 [Value.int IntKind.i64 (IntKind.i64.wrap (n26 + 1))] H48) (M25 [Value.int IntKind.i64 n26] H27))) ∧
 (b53 = !true →
 R24 [Value.int IntKind.i64 (IntKind.i64.wrap (n26 + 1))] H48 ∧
 Less (M25 [Value.int IntKind.i64 (IntKind.i64.wrap (n26 + 1))] H48) (M25 [Value.int IntKind.i64 n26] H27))) ∧
 (decide (n26 < (↑k8 : Int)) = false →
 ∃ H58,
 Vx.Sub H58 H27 ∧
 ∀ (k59 : Nat),
 H27 k59 = none →
 Vx.Sub H58 (H27.upd k59 (Obj.cells #[Value.func (Fn.func 161) #[] #[]] 91)) ∧
 Triple Proofs.Tryz.prog 160 #[Value.slice a7 k8 k9, Value.slice (at0 k59) 1 1]
 (H27.upd k59 (Obj.cells #[Value.func (Fn.func 161) #[] #[]] 91)) fun v60 H61 =>
 ∃ n62,
 v60 = Value.int IntKind.i64 n62 ∧
 Vx.Sub H58 H61 ∧
 Triple Proofs.Tryz.prog 124
 #[Value.agg
 #[Value.int IntKind.i64 n1, Value.int IntKind.i64 n2, Value.int IntKind.i64 n3, Value.int IntKind.i64 n4, Value.int IntKind.i64 n5,
 Value.int IntKind.i64 n6]]
 H61 fun v63 H64 =>
 ∃ n65,
 v63 = Value.int IntKind.i64 n65 ∧
 Ob (at0 k10 ≠ none) ∧
 ∃ H66,
 Writes H64 H66 (fldA (at0 k10) 0) [Value.bool (decide (n62 ≥ n65))] ∧
 ∃ H67,
 Vx.Sub H67 H66 ∧
 ∀ (k68 : Nat),
 H66 k68 = none →
 Vx.Sub H67 (H66.upd k68 (Obj.cells #[Value.func (Fn.func 162) #[] #[]] 91)) ∧
 Triple Proofs.Tryz.prog 160 #[Value.slice a7 k8 k9, Value.slice (at0 k68) 1 1]
 (H66.upd k68 (Obj.cells #[Value.func (Fn.func 162) #[] #[]] 91)) fun v69 H70 =>
 ∃ n71,
 v69 = Value.int IntKind.i64 n71 ∧
 Vx.Sub H67 H70 ∧
 ((n71 == 0) = true →
 Ob (at0 k10 ≠ none) ∧
 ∃ n72,
 Reads H67 (fldA (at0 k10) 6) [Value.int IntKind.i64 n72] ∧
 ((n72 == 0) = false →
 ∀ (k73 : Nat),
 H70 k73 = none →
 Vx.Sub H67
 (H70.upd k73
 (Obj.cells
 #[Value.func (Fn.func 163) #[] #[],
 Value.func (Fn.func 159) #[] #[Value.pointer (at0 k10)]]
 91)) ∧
 Triple Proofs.Tryz.prog 160 #[Value.slice a7 k8 k9, Value.slice (at0 k73) 2 2]
 (H70.upd k73
 (Obj.cells
 #[Value.func (Fn.func 163) #[] #[],
 Value.func (Fn.func 159) #[] #[Value.pointer (at0 k10)]]
 91))
 fun v74 H75 =>
 ∃ n76,
 v74 = Value.int IntKind.i64 n76 ∧
 Vx.Sub H67 H75 ∧
 Ob (at0 k10 ≠ none) ∧
 ∃ H77,
 Writes H75 H77 (fldA (at0 k10) 1) [Value.bool (decide (n76 ≥ n4))] ∧
 ∃ (R78 : Rl) (M79 : Mu),
 R78 [Value.int IntKind.i64 0] H77 ∧
 ∀ (n80 : Int) (H81 : PHeap),
 R78 [Value.int IntKind.i64 n80] H81 →
 (decide (n80 < (↑k8 : Int)) = true →
 Ob (a7 ≠ none ∧ 0 ≤ n80 ∧ n80 < (↑k8 : Int)) ∧
 ∃ n82 n83 n84 n85 s86 n87 n88 n89 n90 n91 a92 k93 k94 a95 k96 k97 a98 k99
 k100,
 Reads H81 (elemA a7 n80 13)
 [Value.int IntKind.i64 n82, Value.int IntKind.i64 n83,
 Value.int IntKind.i64 n84, Value.int IntKind.i64 n85,
 Value.string s86, Value.int IntKind.i64 n87,
 Value.int IntKind.i64 n88, Value.int IntKind.i64 n89,
 Value.int IntKind.i64 n90, Value.int IntKind.i64 n91,
 Value.slice a92 k93 k94, Value.slice a95 k96 k97,
 Value.slice a98 k99 k100] ∧
 ((n82 == 14) = true →
 ∀ (k101 : Nat),
 H81 k101 = none →
 Ob (at0 k10 ≠ none) ∧
 ∃ b102 n103 n104 n105,
 Reads
 (H81.upd k101
 (Obj.cells
 #[Value.int IntKind.i64 n82,
 Value.int IntKind.i64 n83,
 Value.int IntKind.i64 n84,
 Value.int IntKind.i64 n85, Value.string s86,
 Value.int IntKind.i64 n87,
 Value.int IntKind.i64 n88,
 Value.int IntKind.i64 n89,
 Value.int IntKind.i64 n90,
 Value.int IntKind.i64 n91, Value.slice a92 k93 k94,
 Value.slice a95 k96 k97, Value.slice a98 k99 k100]
 52))
 (fldA (at0 k10) 2)
 [Value.bool b102, Value.int IntKind.i64 n103,
 Value.int IntKind.i64 n104,
 Value.int IntKind.i64 n105] ∧
 Triple Proofs.Tryz.prog 164
 #[Value.slice (at0 k101) 1 1,
 Value.agg
 #[Value.bool b102, Value.int IntKind.i64 n103,
 Value.int IntKind.i64 n104,
 Value.int IntKind.i64 n105]]
 (H81.upd k101
 (Obj.cells
 #[Value.int IntKind.i64 n82,
 Value.int IntKind.i64 n83,
 Value.int IntKind.i64 n84,
 Value.int IntKind.i64 n85, Value.string s86,
 Value.int IntKind.i64 n87,
 Value.int IntKind.i64 n88,
 Value.int IntKind.i64 n89,
 Value.int IntKind.i64 n90,
 Value.int IntKind.i64 n91, Value.slice a92 k93 k94,
 Value.slice a95 k96 k97, Value.slice a98 k99 k100]
 52))
 fun v106 H107 =>
 ∃ a108 k109 k110,
 v106 = Value.slice a108 k109 k110 ∧
 Ob (at0 k10 ≠ none) ∧
 ∃ a111 k112 k113,
 Reads H107
 (fldA (at0 k10) 7)
 [Value.slice a111 k112 k113] ∧
 EvV Proofs.Tryz.prog
 (Builtin.append_ #[42, 42] 42
 #[Value.slice a111 k112 k113,
 Value.slice a108 k109 k110])
 H107 fun v114 H115 =>
 ∃ a116 k117 k118,
 v114 = Value.slice a116 k117 k118 ∧
 Ob
 (at0 k10 ≠
 none) ∧
 ∃ H119,
 Writes H115 H119
 (fldA
 (at0 k10)
 7)
 [Value.slice a116 k117 k118] ∧
 R78
 [Value.int IntKind.i64
 (IntKind.i64.wrap
 (n80 + 1))]
 H119 ∧
 Less
 (M79
 [Value.int IntKind.i64
 (IntKind.i64.wrap
 (n80 + 1))]
 H119)
 (M79 [Value.int IntKind.i64 n80]
 H81)) ∧
 ((n82 == 14) = false →
 R78 [Value.int IntKind.i64 (IntKind.i64.wrap (n80 + 1))] H81 ∧
 Less (M79 [Value.int IntKind.i64 (IntKind.i64.wrap (n80 + 1))] H81)
 (M79 [Value.int IntKind.i64 n80] H81))) ∧
 (decide (n80 < (↑k8 : Int)) = false →
 ∃ b120 b121 b122 n123 n124 n125 n126 a127 k128 k129,
 Reads H81 (at0 k10)
 [Value.bool b120, Value.bool b121, Value.bool b122,
 Value.int IntKind.i64 n123, Value.int IntKind.i64 n124,
 Value.int IntKind.i64 n125, Value.int IntKind.i64 n126,
 Value.slice a127 k128 k129] ∧
 Q
 (Value.agg
 #[Value.bool b120, Value.bool b121, Value.bool b122,
 Value.int IntKind.i64 n123, Value.int IntKind.i64 n124,
 Value.int IntKind.i64 n125, Value.int IntKind.i64 n126,
 Value.slice a127 k128 k129])
 H81)) ∧
 ((n72 == 0) = !false →
 Ob (at0 k10 ≠ none) ∧
 ∃ H130,
 Writes H70 H130 (fldA (at0 k10) 1) [Value.bool true] ∧
 ∃ (R131 : Rl) (M132 : Mu),
 R131 [Value.int IntKind.i64 0] H130 ∧
 ∀ (n133 : Int) (H134 : PHeap),
 R131 [Value.int IntKind.i64 n133] H134 →
 (decide (n133 < (↑k8 : Int)) = true →
 Ob (a7 ≠ none ∧ 0 ≤ n133 ∧ n133 < (↑k8 : Int)) ∧
 ∃ n135 n136 n137 n138 s139 n140 n141 n142 n143 n144 a145 k146 k147 a148 k149 k150 a151 k152
 k153,
 Reads H134 (elemA a7 n133 13)
 [Value.int IntKind.i64 n135, Value.int IntKind.i64 n136, Value.int IntKind.i64 n137,
 Value.int IntKind.i64 n138, Value.string s139, Value.int IntKind.i64 n140,
 Value.int IntKind.i64 n141, Value.int IntKind.i64 n142, Value.int IntKind.i64 n143,
 Value.int IntKind.i64 n144, Value.slice a145 k146 k147, Value.slice a148 k149 k150,
 Value.slice a151 k152 k153] ∧
 ((n135 == 14) = true →
 ∀ (k154 : Nat),
 H134 k154 = none →
 Ob (at0 k10 ≠ none) ∧
 ∃ b155 n156 n157 n158,
 Reads
 (H134.upd k154
 (Obj.cells
 #[Value.int IntKind.i64 n135, Value.int IntKind.i64 n136,
 Value.int IntKind.i64 n137, Value.int IntKind.i64 n138,
 Value.string s139, Value.int IntKind.i64 n140,
 Value.int IntKind.i64 n141, Value.int IntKind.i64 n142,
 Value.int IntKind.i64 n143, Value.int IntKind.i64 n144,
 Value.slice a145 k146 k147, Value.slice a148 k149 k150,
 Value.slice a151 k152 k153]
 52))
 (fldA (at0 k10) 2)
 [Value.bool b155, Value.int IntKind.i64 n156,
 Value.int IntKind.i64 n157, Value.int IntKind.i64 n158] ∧
 Triple Proofs.Tryz.prog 164
 #[Value.slice (at0 k154) 1 1,
 Value.agg
 #[Value.bool b155, Value.int IntKind.i64 n156,
 Value.int IntKind.i64 n157, Value.int IntKind.i64 n158]]
 (H134.upd k154
 (Obj.cells
 #[Value.int IntKind.i64 n135, Value.int IntKind.i64 n136,
 Value.int IntKind.i64 n137, Value.int IntKind.i64 n138,
 Value.string s139, Value.int IntKind.i64 n140,
 Value.int IntKind.i64 n141, Value.int IntKind.i64 n142,
 Value.int IntKind.i64 n143, Value.int IntKind.i64 n144,
 Value.slice a145 k146 k147, Value.slice a148 k149 k150,
 Value.slice a151 k152 k153]
 52))
 fun v159 H160 =>
 ∃ a161 k162 k163,
 v159 = Value.slice a161 k162 k163 ∧
 Ob (at0 k10 ≠ none) ∧
 ∃ a164 k165 k166,
 Reads H160 (fldA (at0 k10) 7)
 [Value.slice a164 k165 k166] ∧
 EvV Proofs.Tryz.prog
 (Builtin.append_ #[42, 42] 42
 #[Value.slice a164 k165 k166, Value.slice a161 k162 k163])
 H160 fun v167 H168 =>
 ∃ a169 k170 k171,
 v167 = Value.slice a169 k170 k171 ∧
 Ob (at0 k10 ≠ none) ∧
 ∃ H172,
 Writes H168 H172
 (fldA (at0 k10) 7)
 [Value.slice a169 k170 k171] ∧
 R131
 [Value.int IntKind.i64
 (IntKind.i64.wrap (n133 + 1))]
 H172 ∧
 Less
 (M132
 [Value.int IntKind.i64
 (IntKind.i64.wrap (n133 + 1))]
 H172)
 (M132 [Value.int IntKind.i64 n133] H134)) ∧
 ((n135 == 14) = false →
 R131 [Value.int IntKind.i64 (IntKind.i64.wrap (n133 + 1))] H134 ∧
 Less (M132 [Value.int IntKind.i64 (IntKind.i64.wrap (n133 + 1))] H134)
 (M132 [Value.int IntKind.i64 n133] H134))) ∧
 (decide (n133 < (↑k8 : Int)) = false →
 ∃ b173 b174 b175 n176 n177 n178 n179 a180 k181 k182,
 Reads H134 (at0 k10)
 [Value.bool b173, Value.bool b174, Value.bool b175, Value.int IntKind.i64 n176,
 Value.int IntKind.i64 n177, Value.int IntKind.i64 n178, Value.int IntKind.i64 n179,
 Value.slice a180 k181 k182] ∧
 Q
 (Value.agg
 #[Value.bool b173, Value.bool b174, Value.bool b175, Value.int IntKind.i64 n176,
 Value.int IntKind.i64 n177, Value.int IntKind.i64 n178, Value.int IntKind.i64 n179,
 Value.slice a180 k181 k182])
 H134))) ∧
 ((n71 == 0) = !true →
 Ob (at0 k10 ≠ none) ∧
 ∃ H183,
 Writes H70 H183 (fldA (at0 k10) 1) [Value.bool false] ∧
 ∃ (R184 : Rl) (M185 : Mu),
 R184 [Value.int IntKind.i64 0] H183 ∧
 ∀ (n186 : Int) (H187 : PHeap),
 R184 [Value.int IntKind.i64 n186] H187 →
 (decide (n186 < (↑k8 : Int)) = true →
 Ob (a7 ≠ none ∧ 0 ≤ n186 ∧ n186 < (↑k8 : Int)) ∧
 ∃ n188 n189 n190 n191 s192 n193 n194 n195 n196 n197 a198 k199 k200 a201 k202 k203 a204 k205 k206,
 Reads H187 (elemA a7 n186 13)
 [Value.int IntKind.i64 n188, Value.int IntKind.i64 n189, Value.int IntKind.i64 n190,
 Value.int IntKind.i64 n191, Value.string s192, Value.int IntKind.i64 n193,
 Value.int IntKind.i64 n194, Value.int IntKind.i64 n195, Value.int IntKind.i64 n196,
 Value.int IntKind.i64 n197, Value.slice a198 k199 k200, Value.slice a201 k202 k203,
 Value.slice a204 k205 k206] ∧
 ((n188 == 14) = true →
 ∀ (k207 : Nat),
 H187 k207 = none →
 Ob (at0 k10 ≠ none) ∧
 ∃ b208 n209 n210 n211,
 Reads
 (H187.upd k207
 (Obj.cells
 #[Value.int IntKind.i64 n188, Value.int IntKind.i64 n189,
 Value.int IntKind.i64 n190, Value.int IntKind.i64 n191, Value.string s192,
 Value.int IntKind.i64 n193, Value.int IntKind.i64 n194,
 Value.int IntKind.i64 n195, Value.int IntKind.i64 n196,
 Value.int IntKind.i64 n197, Value.slice a198 k199 k200,
 Value.slice a201 k202 k203, Value.slice a204 k205 k206]
 52))
 (fldA (at0 k10) 2)
 [Value.bool b208, Value.int IntKind.i64 n209, Value.int IntKind.i64 n210,
 Value.int IntKind.i64 n211] ∧
 Triple Proofs.Tryz.prog 164
 #[Value.slice (at0 k207) 1 1,
 Value.agg
 #[Value.bool b208, Value.int IntKind.i64 n209, Value.int IntKind.i64 n210,
 Value.int IntKind.i64 n211]]
 (H187.upd k207
 (Obj.cells
 #[Value.int IntKind.i64 n188, Value.int IntKind.i64 n189,
 Value.int IntKind.i64 n190, Value.int IntKind.i64 n191, Value.string s192,
 Value.int IntKind.i64 n193, Value.int IntKind.i64 n194,
 Value.int IntKind.i64 n195, Value.int IntKind.i64 n196,
 Value.int IntKind.i64 n197, Value.slice a198 k199 k200,
 Value.slice a201 k202 k203, Value.slice a204 k205 k206]
 52))
 fun v212 H213 =>
 ∃ a214 k215 k216,
 v212 = Value.slice a214 k215 k216 ∧
 Ob (at0 k10 ≠ none) ∧
 ∃ a217 k218 k219,
 Reads H213 (fldA (at0 k10) 7)
 [Value.slice a217 k218 k219] ∧
 EvV Proofs.Tryz.prog
 (Builtin.append_ #[42, 42] 42
 #[Value.slice a217 k218 k219, Value.slice a214 k215 k216])
 H213 fun v220 H221 =>
 ∃ a222 k223 k224,
 v220 = Value.slice a222 k223 k224 ∧
 Ob (at0 k10 ≠ none) ∧
 ∃ H225,
 Writes H221 H225 (fldA (at0 k10) 7)
 [Value.slice a222 k223 k224] ∧
 R184 [Value.int IntKind.i64 (IntKind.i64.wrap (n186 + 1))]
 H225 ∧
 Less
 (M185
 [Value.int IntKind.i64 (IntKind.i64.wrap (n186 + 1))]
 H225)
 (M185 [Value.int IntKind.i64 n186] H187)) ∧
 ((n188 == 14) = false →
 R184 [Value.int IntKind.i64 (IntKind.i64.wrap (n186 + 1))] H187 ∧
 Less (M185 [Value.int IntKind.i64 (IntKind.i64.wrap (n186 + 1))] H187)
 (M185 [Value.int IntKind.i64 n186] H187))) ∧
 (decide (n186 < (↑k8 : Int)) = false →
 ∃ b226 b227 b228 n229 n230 n231 n232 a233 k234 k235,
 Reads H187 (at0 k10)
 [Value.bool b226, Value.bool b227, Value.bool b228, Value.int IntKind.i64 n229,
 Value.int IntKind.i64 n230, Value.int IntKind.i64 n231, Value.int IntKind.i64 n232,
 Value.slice a233 k234 k235] ∧
 Q
 (Value.agg
 #[Value.bool b226, Value.bool b227, Value.bool b228, Value.int IntKind.i64 n229,
 Value.int IntKind.i64 n230, Value.int IntKind.i64 n231, Value.int IntKind.i64 n232,
 Value.slice a233 k234 k235])
 H187))))) :
 Triple Go.Proofs.Tryz.prog 135 ([Value.agg #[Value.int IntKind.i64 n1, Value.int IntKind.i64 n2, Value.int IntKind.i64 n3, Value.int IntKind.i64 n4, Value.int IntKind.i64 n5, Value.int IntKind.i64 n6], Value.slice a7 k8 k9]).toArray H Q :=
 Triple.of_vc sSettle.cx (by kernel_rfl) h
theorem sSettle1.vc (n1 : Int) (n2 : Int) (n3 : Int) (n4 : Int) (s5 : ByteArray) (n6 : Int) (n7 : Int) (n8 : Int) (n9 : Int) (n10 : Int) (a11 : Option Addr) (k12 : Nat) (k13 : Nat) (a14 : Option Addr) (k15 : Nat) (k16 : Nat) (a17 : Option Addr) (k18 : Nat) (k19 : Nat) (a20 : Option Addr) (H : PHeap) (Q : Value → PHeap → Prop)
 (h : Ob (a20 ≠ none) ∧ ∃ n21, Reads H (fldA a20 6) [Value.int IntKind.i64 n21] ∧ Q (Value.bool (n8 == n21)) H) :
 Triple Go.Proofs.Tryz.prog 159 ([Value.agg
 #[Value.int IntKind.i64 n1, Value.int IntKind.i64 n2, Value.int IntKind.i64 n3, Value.int IntKind.i64 n4, Value.string s5, Value.int IntKind.i64 n6, Value.int IntKind.i64 n7,
 Value.int IntKind.i64 n8, Value.int IntKind.i64 n9, Value.int IntKind.i64 n10, Value.slice a11 k12 k13, Value.slice a14 k15 k16, Value.slice a17 k18 k19],
 Value.pointer a20]).toArray H Q :=
 Triple.of_vc sSettle1.cx (by kernel_rfl) h
theorem sValue.vc (n1 : Int) (n2 : Int) (n3 : Int) (n4 : Int) (s5 : ByteArray) (n6 : Int) (n7 : Int) (n8 : Int) (n9 : Int) (n10 : Int) (a11 : Option Addr) (k12 : Nat) (k13 : Nat) (a14 : Option Addr) (k15 : Nat) (k16 : Nat) (a17 : Option Addr) (k18 : Nat) (k19 : Nat) (H : PHeap) (Q : Value → PHeap → Prop)
 (h : ((n1 != 14) = true → Q (Value.tuple #[Value.agg #[Value.bool false, Value.int IntKind.i64 0, Value.int IntKind.i64 0, Value.int IntKind.i64 0], Value.bool false]) H) ∧
 ((n1 != 14) = false →
 Triple Proofs.Tryz.prog 181
 #[Value.agg
 #[Value.int IntKind.i64 n10, Value.string ({ data := #[] } : ByteArray), Value.int IntKind.i64 n6, Value.int IntKind.i64 n7, Value.int IntKind.i64 0, Value.int IntKind.i64 n9, Value.slice none 0 0]]
 H fun v20 H21 =>
 ∃ b22 n23 n24 n25 b26,
 v20 = Value.tuple #[Value.agg #[Value.bool b22, Value.int IntKind.i64 n23, Value.int IntKind.i64 n24, Value.int IntKind.i64 n25], Value.bool b26] ∧
 Q (Value.tuple #[Value.agg #[Value.bool b22, Value.int IntKind.i64 n23, Value.int IntKind.i64 n24, Value.int IntKind.i64 n25], Value.bool b26]) H21)) :
 Triple Go.Proofs.Tryz.prog 158 ([Value.agg
 #[Value.int IntKind.i64 n1, Value.int IntKind.i64 n2, Value.int IntKind.i64 n3, Value.int IntKind.i64 n4, Value.string s5, Value.int IntKind.i64 n6, Value.int IntKind.i64 n7,
 Value.int IntKind.i64 n8, Value.int IntKind.i64 n9, Value.int IntKind.i64 n10, Value.slice a11 k12 k13, Value.slice a14 k15 k16, Value.slice a17 k18 k19]]).toArray H Q :=
 Triple.of_vc sValue.cx (by kernel_rfl) h
theorem sCount.vc (a1 : Option Addr) (k2 : Nat) (k3 : Nat) (a4 : Option Addr) (k5 : Nat) (k6 : Nat) (H : PHeap) (Q : Value → PHeap → Prop)
 (h : ∃ (R7 : Rl) (M8 : Mu),
 R7 [Value.int IntKind.i64 0, Value.int IntKind.i64 0] H ∧
 ∀ (n9 n10 : Int) (H11 : PHeap),
 R7 [Value.int IntKind.i64 n9, Value.int IntKind.i64 n10] H11 →
 (decide (n10 < (↑k2 : Int)) = true →
 Ob (a1 ≠ none ∧ 0 ≤ n10 ∧ n10 < (↑k2 : Int)) ∧
 ∃ n12 n13 n14 n15 s16 n17 n18 n19 n20 n21 a22 k23 k24 a25 k26 k27 a28 k29 k30,
 Reads H11 (elemA a1 n10 13)
 [Value.int IntKind.i64 n12, Value.int IntKind.i64 n13, Value.int IntKind.i64 n14, Value.int IntKind.i64 n15, Value.string s16, Value.int IntKind.i64 n17, Value.int IntKind.i64 n18,
 Value.int IntKind.i64 n19, Value.int IntKind.i64 n20, Value.int IntKind.i64 n21, Value.slice a22 k23 k24, Value.slice a25 k26 k27, Value.slice a28 k29 k30] ∧
 ∃ (R31 : Rl) (M32 : Mu),
 R31 [Value.int IntKind.i64 0] H11 ∧
 ∀ (n33 : Int) (H34 : PHeap),
 R31 [Value.int IntKind.i64 n33] H34 →
 (decide (n33 < (↑k5 : Int)) = true →
 Ob (a4 ≠ none ∧ 0 ≤ n33 ∧ n33 < (↑k5 : Int)) ∧
 ∃ v35,
 Reads H34 (elemA a4 n33 1) [v35] ∧
 CallY Proofs.Tryz.prog v35
 #[Value.agg
 #[Value.int IntKind.i64 n12, Value.int IntKind.i64 n13, Value.int IntKind.i64 n14, Value.int IntKind.i64 n15, Value.string s16, Value.int IntKind.i64 n17,
 Value.int IntKind.i64 n18, Value.int IntKind.i64 n19, Value.int IntKind.i64 n20, Value.int IntKind.i64 n21, Value.slice a22 k23 k24,
 Value.slice a25 k26 k27, Value.slice a28 k29 k30]]
 H34 fun v36 H37 =>
 ∃ b38,
 v36 = Value.bool b38 ∧
 ((!b38) = true →
 R7 [Value.int IntKind.i64 n9, Value.int IntKind.i64 (IntKind.i64.wrap (n10 + 1))] H37 ∧
 Less (M8 [Value.int IntKind.i64 n9, Value.int IntKind.i64 (IntKind.i64.wrap (n10 + 1))] H37)
 (M8 [Value.int IntKind.i64 n9, Value.int IntKind.i64 n10] H11)) ∧
 ((!b38) = false →
 R31 [Value.int IntKind.i64 (IntKind.i64.wrap (n33 + 1))] H37 ∧
 Less (M32 [Value.int IntKind.i64 (IntKind.i64.wrap (n33 + 1))] H37) (M32 [Value.int IntKind.i64 n33] H34))) ∧
 (decide (n33 < (↑k5 : Int)) = false →
 R7 [Value.int IntKind.i64 (IntKind.i64.wrap (n9 + 1)), Value.int IntKind.i64 (IntKind.i64.wrap (n10 + 1))] H34 ∧
 Less (M8 [Value.int IntKind.i64 (IntKind.i64.wrap (n9 + 1)), Value.int IntKind.i64 (IntKind.i64.wrap (n10 + 1))] H34)
 (M8 [Value.int IntKind.i64 n9, Value.int IntKind.i64 n10] H11))) ∧
 (decide (n10 < (↑k2 : Int)) = false → Q (Value.int IntKind.i64 n9) H11)) :
 Triple Go.Proofs.Tryz.prog 160 ([Value.slice a1 k2 k3, Value.slice a4 k5 k6]).toArray H Q :=
 Triple.of_vc sCount.cx (by kernel_rfl) h
theorem sSound.vc (n1 : Int) (n2 : Int) (n3 : Int) (n4 : Int) (s5 : ByteArray) (n6 : Int) (n7 : Int) (n8 : Int) (n9 : Int) (n10 : Int) (a11 : Option Addr) (k12 : Nat) (k13 : Nat) (a14 : Option Addr) (k15 : Nat) (k16 : Nat) (a17 : Option Addr) (k18 : Nat) (k19 : Nat) (H : PHeap) (Q : Value → PHeap → Prop)
 (h : ((n1 == 14) = true →
 Triple Proofs.Tryz.prog 182
 #[Value.agg
 #[Value.int IntKind.i64 n1, Value.int IntKind.i64 n2, Value.int IntKind.i64 n3, Value.int IntKind.i64 n4, Value.string s5, Value.int IntKind.i64 n6, Value.int IntKind.i64 n7,
 Value.int IntKind.i64 n8, Value.int IntKind.i64 n9, Value.int IntKind.i64 n10, Value.slice a11 k12 k13, Value.slice a14 k15 k16, Value.slice a17 k18 k19],
 Value.int IntKind.i64 2]
 H fun v20 H21 => ∃ n22, v20 = Value.int IntKind.i64 n22 ∧ Q (Value.bool (n22 == 1)) H21) ∧
 ((n1 == 14) = !true → Q (Value.bool false) H)) :
 Triple Go.Proofs.Tryz.prog 161 ([Value.agg
 #[Value.int IntKind.i64 n1, Value.int IntKind.i64 n2, Value.int IntKind.i64 n3, Value.int IntKind.i64 n4, Value.string s5, Value.int IntKind.i64 n6, Value.int IntKind.i64 n7,
 Value.int IntKind.i64 n8, Value.int IntKind.i64 n9, Value.int IntKind.i64 n10, Value.slice a11 k12 k13, Value.slice a14 k15 k16, Value.slice a17 k18 k19]]).toArray H Q :=
 Triple.of_vc sSound.cx (by kernel_rfl) h
theorem sLeft.vc (n1 : Int) (n2 : Int) (n3 : Int) (n4 : Int) (s5 : ByteArray) (n6 : Int) (n7 : Int) (n8 : Int) (n9 : Int) (n10 : Int) (a11 : Option Addr) (k12 : Nat) (k13 : Nat) (a14 : Option Addr) (k15 : Nat) (k16 : Nat) (a17 : Option Addr) (k18 : Nat) (k19 : Nat) (H : PHeap) (Q : Value → PHeap → Prop)
 (h : ((n1 == 14) = true →
 Triple Proofs.Tryz.prog 182
 #[Value.agg
 #[Value.int IntKind.i64 n1, Value.int IntKind.i64 n2, Value.int IntKind.i64 n3, Value.int IntKind.i64 n4, Value.string s5, Value.int IntKind.i64 n6, Value.int IntKind.i64 n7,
 Value.int IntKind.i64 n8, Value.int IntKind.i64 n9, Value.int IntKind.i64 n10, Value.slice a11 k12 k13, Value.slice a14 k15 k16, Value.slice a17 k18 k19],
 Value.int IntKind.i64 0]
 H fun v20 H21 =>
 ∃ n22,
 v20 = Value.int IntKind.i64 n22 ∧
 ((n22 != 0) = false →
 Triple Proofs.Tryz.prog 182
 #[Value.agg
 #[Value.int IntKind.i64 n1, Value.int IntKind.i64 n2, Value.int IntKind.i64 n3, Value.int IntKind.i64 n4, Value.string s5, Value.int IntKind.i64 n6, Value.int IntKind.i64 n7,
 Value.int IntKind.i64 n8, Value.int IntKind.i64 n9, Value.int IntKind.i64 n10, Value.slice a11 k12 k13, Value.slice a14 k15 k16, Value.slice a17 k18 k19],
 Value.int IntKind.i64 1]
 H21 fun v23 H24 => ∃ n25, v23 = Value.int IntKind.i64 n25 ∧ Q (Value.bool (n25 != 0)) H24) ∧
 ((n22 != 0) = !false → Q (Value.bool true) H21)) ∧
 ((n1 == 14) = !true → Q (Value.bool false) H)) :
 Triple Go.Proofs.Tryz.prog 162 ([Value.agg
 #[Value.int IntKind.i64 n1, Value.int IntKind.i64 n2, Value.int IntKind.i64 n3, Value.int IntKind.i64 n4, Value.string s5, Value.int IntKind.i64 n6, Value.int IntKind.i64 n7,
 Value.int IntKind.i64 n8, Value.int IntKind.i64 n9, Value.int IntKind.i64 n10, Value.slice a11 k12 k13, Value.slice a14 k15 k16, Value.slice a17 k18 k19]]).toArray H Q :=
 Triple.of_vc sLeft.cx (by kernel_rfl) h
theorem sMarked.vc (n1 : Int) (n2 : Int) (n3 : Int) (n4 : Int) (s5 : ByteArray) (n6 : Int) (n7 : Int) (n8 : Int) (n9 : Int) (n10 : Int) (a11 : Option Addr) (k12 : Nat) (k13 : Nat) (a14 : Option Addr) (k15 : Nat) (k16 : Nat) (a17 : Option Addr) (k18 : Nat) (k19 : Nat) (H : PHeap) (Q : Value → PHeap → Prop)
 (h : Triple Proofs.Tryz.prog 158
 #[Value.agg
 #[Value.int IntKind.i64 n1, Value.int IntKind.i64 n2, Value.int IntKind.i64 n3, Value.int IntKind.i64 n4, Value.string s5, Value.int IntKind.i64 n6, Value.int IntKind.i64 n7,
 Value.int IntKind.i64 n8, Value.int IntKind.i64 n9, Value.int IntKind.i64 n10, Value.slice a11 k12 k13, Value.slice a14 k15 k16, Value.slice a17 k18 k19]]
 H fun v20 H21 =>
 ∃ b22 n23 n24 n25 b26, v20 = Value.tuple #[Value.agg #[Value.bool b22, Value.int IntKind.i64 n23, Value.int IntKind.i64 n24, Value.int IntKind.i64 n25], Value.bool b26] ∧ Q (Value.bool b26) H21) :
 Triple Go.Proofs.Tryz.prog 163 ([Value.agg
 #[Value.int IntKind.i64 n1, Value.int IntKind.i64 n2, Value.int IntKind.i64 n3, Value.int IntKind.i64 n4, Value.string s5, Value.int IntKind.i64 n6, Value.int IntKind.i64 n7,
 Value.int IntKind.i64 n8, Value.int IntKind.i64 n9, Value.int IntKind.i64 n10, Value.slice a11 k12 k13, Value.slice a14 k15 k16, Value.slice a17 k18 k19]]).toArray H Q :=
 Triple.of_vc sMarked.cx (by kernel_rfl) h
theorem sHold.vc (a1 : Option Addr) (k2 : Nat) (k3 : Nat) (b4 : Bool) (n5 : Int) (n6 : Int) (n7 : Int) (H : PHeap) (Q : Value → PHeap → Prop)
 (h : ∃ (R8 : Rl) (M9 : Mu),
 R8 [Value.slice none 0 0, Value.int IntKind.i64 0] H ∧
 ∀ (a10 : Option Addr) (k11 k12 : Nat) (n13 : Int) (H14 : PHeap),
 R8 [Value.slice a10 k11 k12, Value.int IntKind.i64 n13] H14 →
 (decide (n13 < (↑k2 : Int)) = true →
 Ob (a1 ≠ none ∧ 0 ≤ n13 ∧ n13 < (↑k2 : Int)) ∧
 ∃ n15 n16 n17 n18 s19 n20 n21 n22 n23 n24 a25 k26 k27 a28 k29 k30 a31 k32 k33,
 Reads H14 (elemA a1 n13 13)
 [Value.int IntKind.i64 n15, Value.int IntKind.i64 n16, Value.int IntKind.i64 n17, Value.int IntKind.i64 n18, Value.string s19, Value.int IntKind.i64 n20, Value.int IntKind.i64 n21,
 Value.int IntKind.i64 n22, Value.int IntKind.i64 n23, Value.int IntKind.i64 n24, Value.slice a25 k26 k27, Value.slice a28 k29 k30, Value.slice a31 k32 k33] ∧
 ((bif b4 then bif n24 == 2 then bif n20 == n5 then n21 == n6 else false else false else false) = true →
 ∀ (k34 : Nat),
 H14 k34 = none →
 EvV Proofs.Tryz.prog (Builtin.append_ #[42, 42] 42 #[Value.slice a10 k11 k12, Value.slice (at0 k34) 1 1])
 (H14.upd k34 (Obj.cells #[Value.int IntKind.i64 n16] 3)) fun v35 H36 =>
 ∃ a37 k38 k39,
 v35 = Value.slice a37 k38 k39 ∧
 R8 [Value.slice a37 k38 k39, Value.int IntKind.i64 (IntKind.i64.wrap (n13 + 1))] H36 ∧
 Less (M9 [Value.slice a37 k38 k39, Value.int IntKind.i64 (IntKind.i64.wrap (n13 + 1))] H36) (M9 [Value.slice a10 k11 k12, Value.int IntKind.i64 n13] H14)) ∧
 ((bif b4 then bif n24 == 2 then bif n20 == n5 then n21 == n6 else false else false else false) = false →
 R8 [Value.slice a10 k11 k12, Value.int IntKind.i64 (IntKind.i64.wrap (n13 + 1))] H14 ∧
 Less (M9 [Value.slice a10 k11 k12, Value.int IntKind.i64 (IntKind.i64.wrap (n13 + 1))] H14) (M9 [Value.slice a10 k11 k12, Value.int IntKind.i64 n13] H14))) ∧
 (decide (n13 < (↑k2 : Int)) = false → Q (Value.slice a10 k11 k12) H14)) :
 Triple Go.Proofs.Tryz.prog 164 ([Value.slice a1 k2 k3, Value.agg #[Value.bool b4, Value.int IntKind.i64 n5, Value.int IntKind.i64 n6, Value.int IntKind.i64 n7]]).toArray H Q :=
 Triple.of_vc sHold.cx (by kernel_rfl) h
theorem sWho.vc (n1 : Int) (n2 : Int) (n3 : Int) (n4 : Int) (s5 : ByteArray) (n6 : Int) (n7 : Int) (n8 : Int) (n9 : Int) (n10 : Int) (a11 : Option Addr) (k12 : Nat) (k13 : Nat) (a14 : Option Addr) (k15 : Nat) (k16 : Nat) (a17 : Option Addr) (k18 : Nat) (k19 : Nat) (n20 : Int) (H : PHeap) (Q : Value → PHeap → Prop)
 (h : (decide (n20 < (↑k12 : Int)) = true → Ob (a11 ≠ none ∧ 0 ≤ n20 ∧ n20 < (↑k12 : Int)) ∧ ∃ n21, Reads H (elemA a11 n20 1) [Value.int IntKind.i64 n21] ∧ Q (Value.int IntKind.i64 n21) H) ∧
 (decide (n20 < (↑k12 : Int)) = false → Q (Value.int IntKind.i64 0) H)) :
 Triple Go.Proofs.Tryz.prog 182 ([Value.agg
 #[Value.int IntKind.i64 n1, Value.int IntKind.i64 n2, Value.int IntKind.i64 n3, Value.int IntKind.i64 n4, Value.string s5, Value.int IntKind.i64 n6, Value.int IntKind.i64 n7,
 Value.int IntKind.i64 n8, Value.int IntKind.i64 n9, Value.int IntKind.i64 n10, Value.slice a11 k12 k13, Value.slice a14 k15 k16, Value.slice a17 k18 k19],
 Value.int IntKind.i64 n20]).toArray H Q :=
 Triple.of_vc sWho.cx (by kernel_rfl) h
theorem fixOf.vc (n1 : Int) (s2 : ByteArray) (n3 : Int) (n4 : Int) (n5 : Int) (n6 : Int) (a7 : Option Addr) (k8 : Nat) (k9 : Nat) (H : PHeap) (Q : Value → PHeap → Prop)
 (h : ((bif n1 == 2 then true else n1 == 3) = true → Q (Value.tuple #[Value.agg #[Value.bool true, Value.int IntKind.i64 n3, Value.int IntKind.i64 n4, Value.int IntKind.i64 n6], Value.bool true]) H) ∧
 ((bif n1 == 2 then true else n1 == 3) = false →
 ((n1 == 4) = true → Q (Value.tuple #[Value.agg #[Value.bool false, Value.int IntKind.i64 0, Value.int IntKind.i64 0, Value.int IntKind.i64 0], Value.bool true]) H) ∧
 ((n1 == 4) = false → Q (Value.tuple #[Value.agg #[Value.bool false, Value.int IntKind.i64 0, Value.int IntKind.i64 0, Value.int IntKind.i64 0], Value.bool false]) H))) :
 Triple Go.Proofs.Tryz.prog 181 ([Value.agg #[Value.int IntKind.i64 n1, Value.string s2, Value.int IntKind.i64 n3, Value.int IntKind.i64 n4, Value.int IntKind.i64 n5, Value.int IntKind.i64 n6, Value.slice a7 k8 k9]]).toArray H Q :=
 Triple.of_vc fixOf.cx (by kernel_rfl) h
theorem rHold.vc (a1 : Option Addr) (k2 : Nat) (k3 : Nat) (b4 : Bool) (n5 : Int) (n6 : Int) (n7 : Int) (H : PHeap) (Q : Value → PHeap → Prop)
 (h : ∃ (R8 : Rl) (M9 : Mu),
 R8 [Value.slice none 0 0, Value.int IntKind.i64 0] H ∧
 ∀ (a10 : Option Addr) (k11 k12 : Nat) (n13 : Int) (H14 : PHeap),
 R8 [Value.slice a10 k11 k12, Value.int IntKind.i64 n13] H14 →
 (decide (n13 < (↑k2 : Int)) = true →
 ∃ H15,
 Vx.Sub H15 H14 ∧
 Ob (a1 ≠ none ∧ 0 ≤ n13 ∧ n13 < (↑k2 : Int)) ∧
 ∃ n16 n17 n18 n19 s20 n21 n22 n23 n24 n25 a26 k27 k28 a29 k30 k31 a32 k33 k34,
 Reads H15 (elemA a1 n13 13)
 [Value.int IntKind.i64 n16, Value.int IntKind.i64 n17, Value.int IntKind.i64 n18, Value.int IntKind.i64 n19, Value.string s20, Value.int IntKind.i64 n21,
 Value.int IntKind.i64 n22, Value.int IntKind.i64 n23, Value.int IntKind.i64 n24, Value.int IntKind.i64 n25, Value.slice a26 k27 k28, Value.slice a29 k30 k31,
 Value.slice a32 k33 k34] ∧
 Triple Proofs.Tryz.prog 144
 #[Value.agg
 #[Value.int IntKind.i64 n16, Value.int IntKind.i64 n17, Value.int IntKind.i64 n18, Value.int IntKind.i64 n19, Value.string s20, Value.int IntKind.i64 n21,
 Value.int IntKind.i64 n22, Value.int IntKind.i64 n23, Value.int IntKind.i64 n24, Value.int IntKind.i64 n25, Value.slice a26 k27 k28, Value.slice a29 k30 k31,
 Value.slice a32 k33 k34],
 Value.agg #[Value.bool b4, Value.int IntKind.i64 n5, Value.int IntKind.i64 n6, Value.int IntKind.i64 n7]]
 H14 fun v35 H36 =>
 ∃ b37,
 v35 = Value.bool b37 ∧
 (b37 = true →
 Ob (a1 ≠ none ∧ 0 ≤ n13 ∧ n13 < (↑k2 : Int)) ∧
 Ob (elemA a1 n13 13 ≠ none) ∧
 ∃ n38,
 Reads H36 (fldA (elemA a1 n13 13) 1) [Value.int IntKind.i64 n38] ∧
 ∀ (k39 : Nat),
 H36 k39 = none →
 EvV Proofs.Tryz.prog (Builtin.append_ #[42, 42] 42 #[Value.slice a10 k11 k12, Value.slice (at0 k39) 1 1])
 (H36.upd k39 (Obj.cells #[Value.int IntKind.i64 n38] 3)) fun v40 H41 =>
 ∃ a42 k43 k44,
 v40 = Value.slice a42 k43 k44 ∧
 R8 [Value.slice a42 k43 k44, Value.int IntKind.i64 (IntKind.i64.wrap (n13 + 1))] H41 ∧
 Less (M9 [Value.slice a42 k43 k44, Value.int IntKind.i64 (IntKind.i64.wrap (n13 + 1))] H41)
 (M9 [Value.slice a10 k11 k12, Value.int IntKind.i64 n13] H14)) ∧
 (b37 = false →
 R8 [Value.slice a10 k11 k12, Value.int IntKind.i64 (IntKind.i64.wrap (n13 + 1))] H36 ∧
 Less (M9 [Value.slice a10 k11 k12, Value.int IntKind.i64 (IntKind.i64.wrap (n13 + 1))] H36) (M9 [Value.slice a10 k11 k12, Value.int IntKind.i64 n13] H14))) ∧
 (decide (n13 < (↑k2 : Int)) = false → Q (Value.slice a10 k11 k12) H14)) :
 Triple Go.Proofs.Tryz.prog 109 ([Value.slice a1 k2 k3, Value.agg #[Value.bool b4, Value.int IntKind.i64 n5, Value.int IntKind.i64 n6, Value.int IntKind.i64 n7]]).toArray H Q :=
 Triple.of_vc rHold.cx (by kernel_rfl) h
end Go.Vc
namespace Go.Stl
open Go.Vx Go.Vc Go.Proofs Go.Pln
abbrev Msg := Rnd.Msg
abbrev mE := Rnd.mE
abbrev vM (m : Msg) : Value := .agg (mE m).toArray
abbrev iE : Int → List Value := intE .i64
abbrev kind_ (m : Msg) : Int := m.1
abbrev from_ (m : Msg) : Int := m.2.1
abbrev att_ (m : Msg) : Int := m.2.2.2.2.2.1
abbrev ep_ (m : Msg) : Int := m.2.2.2.2.2.2.1
abbrev mark_ (m : Msg) : Int := m.2.2.2.2.2.2.2.1
abbrev sz_ (m : Msg) : Int := m.2.2.2.2.2.2.2.2.1
abbrev what_ (m : Msg) : Int := m.2.2.2.2.2.2.2.2.2.1
abbrev who_ (m : Msg) : Sl Int := m.2.2.2.2.2.2.2.2.2.2.1
/-- What counts of a name. -/
structure Val where
  pr : Bool
  at_ : Int
  ep : Int
  sz : Int
def val0 : Val := ⟨false, 0, 0, 0⟩
abbrev Val.c (v : Val) : List Value := [.bool v.pr, vI v.at_, vI v.ep, vI v.sz]
abbrev Val.v (v : Val) : Value := .agg #[.bool v.pr, vI v.at_, vI v.ep, vI v.sz]
def whoL (m : Msg) (i : Nat) : Int := ((who_ m).l[i]?).getD 0
def ofV (m : Msg) : Val := ⟨true, att_ m, ep_ m, sz_ m⟩
/-- Is a mark said? -/
def markedM (m : Msg) : Bool := kind_ m == 14 && (what_ m == 2 || what_ m == 3 || what_ m == 4)
def valueM (m : Msg) : Val := if kind_ m == 14 && (what_ m == 2 || what_ m == 3) then ofV m else val0
def soundM (m : Msg) : Bool := kind_ m == 14 && whoL m 2 == 1
def leftM (m : Msg) : Bool := kind_ m == 14 && (whoL m 0 != 0 || whoL m 1 != 0)
def cntM (p : Msg → Bool) (L : List Msg) : Nat := (L.filter p).length
def bestStep (s : Int × Val) (m : Msg) : Int × Val := if markedM m && decide (mark_ m > s.1) then (mark_ m, valueM m) else s
def best (L : List Msg) : Int × Val := L.foldl bestStep (0, val0)
def holdsM (v : Val) (m : Msg) : Bool := v.pr && (what_ m == 2) && (att_ m == v.at_) && (ep_ m == v.ep)
def holdL (v : Val) (L : List Msg) : List Int := (L.filter (holdsM v)).map from_
structure Verd where
  enough : Bool
  clean : Bool
  value : Val
  mark : Int
  holders : List Int
def verd0 : Verd := ⟨false, false, val0, 0, []⟩
/-- What counts. -/
def verd (p : Plan) (L : List Msg) : Verd := if p.ok then
    ⟨decide ((cntM soundM L : Int) ≥ p.n - p.w + 1), cntM leftM L == 0 && ((best L).1 == 0 || decide ((cntM (fun m => markedM m && mark_ m == (best L).1) L : Int) ≥ p.w)), (best L).2, (best L).1, holdL (best L).2 (L.filter fun m => kind_ m == 14)⟩
  else verd0
theorem cnt_snoc (p : Msg → Bool) (L : List Msg) (m : Msg) : cntM p (L ++ [m]) = cntM p L + if p m then 1 else 0 := by
  unfold cntM
  rw [List.filter_append, List.length_append]
  cases h : p m <;> simp [h]
theorem cnt_le (p : Msg → Bool) (L : List Msg) : cntM p L ≤ L.length := List.length_filter_le ..
theorem best_snoc (L : List Msg) (m : Msg) : best (L ++ [m]) = bestStep (best L) m := by simp [best]
theorem hold_snoc (v : Val) (L : List Msg) (m : Msg) : holdL v (L ++ [m]) = holdL v L ++ if holdsM v m then [from_ m] else [] := by
  unfold holdL
  rw [List.filter_append, List.map_append]
  congr 1
  cases h : holdsM v m <;> simp [h]
theorem hold_len (v : Val) (L : List Msg) : (holdL v L).length ≤ L.length := by
  unfold holdL
  rw [List.length_map]; exact List.length_filter_le ..
theorem sWho_ok {H : PHeap} {m : Msg} {i : Nat} (h : RdL H iE 1 (who_ m).oa (who_ m).n (who_ m).l) : Triple Tryz.prog 182 #[vM m, vI i] H fun v H' => v = vI (whoL m i) ∧ H' = H := by
  obtain ⟨y1, y2, y3, y4, y5, y6, y7, y8, y9, y10, ⟨ya, yb, yc, yl⟩, ⟨za, zb, zc, zl⟩, ⟨wa, wb, wc, wl⟩⟩ := m
  have hw : RdL H iE 1 ya yb yl := h
  have hwl := hw.len
  refine sWho.vc y1 y2 y3 y4 y5 y6 y7 y8 y9 y10 ya yb yc za zb zc wa wb wc i H _ ⟨fun e => ?_, fun e => ?_⟩
  · have e' : i < yb := by simpa using e
    obtain ⟨x, hx, hxr⟩ := hw.ex (i := (i : Int)) (by omega) (by omega)
    rw [Int.toNat_natCast] at hx
    exact ⟨hw.ob (by omega) (by omega), x, hxr, by simp [whoL, who_, hx], rfl⟩
  · have e' : ¬ i < yb := by simpa using e
    exact ⟨by simp [whoL, who_, List.getElem?_eq_none (show yl.length ≤ i by omega)], rfl⟩
theorem sValue_ok (m : Msg) : Pure Tryz.prog 158 #[vM m] (.tuple #[(valueM m).v, .bool (markedM m)]) := fun H => by
  obtain ⟨y1, y2, y3, y4, y5, y6, y7, y8, y9, y10, ⟨ya, yb, yc, yl⟩, ⟨za, zb, zc, zl⟩, ⟨wa, wb, wc, wl⟩⟩ := m
  refine sValue.vc y1 y2 y3 y4 y5 y6 y7 y8 y9 y10 ya yb yc za zb zc wa wb wc H _ ⟨fun e => ?_, fun e => ?_⟩
  · have e' : (y1 == 14) = false := by simpa [bne] using e
    exact ⟨by simp [valueM, markedM, kind_, e', val0], rfl⟩
  · have e' : (y1 == 14) = true := by simpa [bne] using e
    refine fixOf.vc y10 _ y6 y7 0 y9 none 0 0 H _ ⟨fun e2 => ?_, fun e2 => ⟨fun e3 => ?_, fun e3 => ?_⟩⟩
    · have h2 : (y10 == 2 || y10 == 3) = true := by cases h : y10 == 2 <;> simp [h] at e2 ⊢; simpa using e2
      exact ⟨_, _, _, _, _, rfl, by simp only [valueM, markedM, kind_, what_, e', h2, Bool.true_and, Bool.true_or, if_true, ofV, att_, ep_, sz_], rfl⟩
    · have h2 : (y10 == 2 || y10 == 3) = false := by cases h : y10 == 2 <;> simp [h] at e2 ⊢; simpa using e2
      exact ⟨_, _, _, _, _, rfl, by simp [valueM, markedM, kind_, what_, e', h2, e3, val0], rfl⟩
    · have h2 : (y10 == 2 || y10 == 3) = false := by cases h : y10 == 2 <;> simp [h] at e2 ⊢; simpa using e2
      exact ⟨_, _, _, _, _, rfl, by simp [valueM, markedM, kind_, what_, e', h2, e3, val0], rfl⟩
theorem sMarked_ok (m : Msg) : Pure Tryz.prog 163 #[vM m] (.bool (markedM m)) := fun H => by
  have h := sValue_ok m
  obtain ⟨y1, y2, y3, y4, y5, y6, y7, y8, y9, y10, ⟨ya, yb, yc, yl⟩, ⟨za, zb, zc, zl⟩, ⟨wa, wb, wc, wl⟩⟩ := m
  exact sMarked.vc y1 y2 y3 y4 y5 y6 y7 y8 y9 y10 ya yb yc za zb zc wa wb wc H _ (h.use ⟨_, _, _, _, _, rfl, rfl, rfl⟩)
theorem sSound_ok {H : PHeap} {m : Msg} (h : RdL H iE 1 (who_ m).oa (who_ m).n (who_ m).l) : Triple Tryz.prog 161 #[vM m] H fun v H' => v = .bool (soundM m) ∧ H' = H := by
  have hw := sWho_ok (i := 2) h
  obtain ⟨y1, y2, y3, y4, y5, y6, y7, y8, y9, y10, ⟨ya, yb, yc, yl⟩, ⟨za, zb, zc, zl⟩, ⟨wa, wb, wc, wl⟩⟩ := m
  refine sSound.vc y1 y2 y3 y4 y5 y6 y7 y8 y9 y10 ya yb yc za zb zc wa wb wc H _ ⟨fun e => hw.mono ?_, fun e => ?_⟩
  · rintro _ H' ⟨rfl, hH⟩
    obtain rfl := hH.symm
    exact ⟨_, rfl, by simp only [soundM, kind_, e, Bool.true_and], rfl⟩
  · have e' : (y1 == 14) = false := by simpa using e
    exact ⟨by simp only [soundM, kind_, e', Bool.false_and], rfl⟩
theorem sLeft_ok {H : PHeap} {m : Msg} (h : RdL H iE 1 (who_ m).oa (who_ m).n (who_ m).l) : Triple Tryz.prog 162 #[vM m] H fun v H' => v = .bool (leftM m) ∧ H' = H := by
  have hw0 := sWho_ok (i := 0) h
  have hw1 := sWho_ok (i := 1) h
  obtain ⟨y1, y2, y3, y4, y5, y6, y7, y8, y9, y10, ⟨ya, yb, yc, yl⟩, ⟨za, zb, zc, zl⟩, ⟨wa, wb, wc, wl⟩⟩ := m
  refine sLeft.vc y1 y2 y3 y4 y5 y6 y7 y8 y9 y10 ya yb yc za zb zc wa wb wc H _ ⟨fun e => hw0.mono ?_, fun e => ?_⟩
  · rintro _ H' ⟨rfl, hH⟩
    obtain rfl := hH.symm
    refine ⟨_, rfl, fun e0 => hw1.mono ?_, fun e0 => ?_⟩
    · rintro _ H' ⟨rfl, hH⟩
      obtain rfl := hH.symm
      exact ⟨_, rfl, by simp only [leftM, kind_, e, e0, Bool.true_and, Bool.false_or], rfl⟩
    · have e0' : (whoL (y1, y2, y3, y4, y5, y6, y7, y8, y9, y10, ⟨ya, yb, yc, yl⟩, ⟨za, zb, zc, zl⟩, ⟨wa, wb, wc, wl⟩) 0 != 0) = true := by simpa using e0
      exact ⟨by simp only [leftM, kind_, e, e0', Bool.true_and, Bool.true_or], rfl⟩
  · have e' : (y1 == 14) = false := by simpa using e
    exact ⟨by simp only [leftM, kind_, e', Bool.false_and], rfl⟩
abbrev fE (f : Value) : List Value := [f]
theorem count_ok {H : PHeap} {oa ob : Option Addr} {n c k d : Nat} {L : List Msg} {fs : List Value} {ps : List (Msg → Bool)} (hl : RdL H mE 13 oa n L) (hf : RdL H fE 1 ob k fs) (hlen : ps.length = fs.length) (hn : n ≤ 100000) (hk : k ≤ 100000)
    (ht : ∀ (i : Nat) f p, fs[i]? = some f → ps[i]? = some p → ∀ x ∈ L, ∀ Q : Value → PHeap → Prop, Q (.bool (p x)) H → CallY Tryz.prog f #[vM x] H Q) :
    Triple Tryz.prog 160 #[.slice oa n c, .slice ob k d] H fun v H' => v = vI (cntM (fun x => ps.all fun p => p x) L) ∧ H' = H := by
  have hll := hl.len
  have hfl := hf.len
  refine sCount.vc oa n c ob k d H _ ⟨fun t H' => match t with | [.int _ z, .int _ i] => 0 ≤ i ∧ i ≤ n ∧ H' = H ∧ z = (cntM (fun x => ps.all fun p => p x) (L.take i.toNat) : Nat) | _ => False, fun t _ => match t with | [_, .int _ i] => (n - i).toNat | _ => 0, ⟨by omega, by omega, rfl, by simp [cntM]⟩, ?_⟩
  rintro z i H11 ⟨i0, i1, hH, rfl⟩
  obtain rfl := hH.symm
  obtain ⟨i, rfl⟩ : ∃ j : Nat, i = j := ⟨i.toNat, by omega⟩
  rw [Int.toNat_natCast]
  have hcl := cnt_le (fun x => ps.all fun p => p x) (L.take i)
  rw [List.length_take] at hcl
  refine ⟨fun hi => ?_, fun hi => ?_⟩
  · have hi' : i < n := by simpa using hi
    obtain ⟨x, hx, hxr⟩ := hl.ex (i := (i : Int)) (by omega) (by omega)
    rw [Int.toNat_natCast] at hx
    have hxm := List.mem_of_getElem? hx
    have hsn : cntM (fun x => ps.all fun p => p x) (L.take (i + 1)) = cntM (fun x => ps.all fun p => p x) (L.take i) + if (ps.all fun p => p x) then 1 else 0 := by
      rw [List.take_add_one, hx]; exact cnt_snoc _ _ _
    have htx := fun i f p h1 h2 => ht i f p h1 h2 x hxm
    generalize hpx : (ps.all fun p => p x) = px at hsn
    have hpi : ∀ (j : Nat) p, ps[j]? = some p → p x = false → px = false := fun j p hp hf => by
      rw [← hpx, List.all_eq_false]; exact ⟨p, List.mem_of_getElem? hp, by simp [hf]⟩
    have hpall : (∀ p ∈ ps, p x = true) → px = true := fun h => by rw [← hpx, List.all_eq_true]; exact h
    obtain ⟨y1, y2, y3, y4, y5, y6, y7, y8, y9, y10, ⟨ya, yb, yc, yl⟩, ⟨za, zb, zc, zl⟩, ⟨wa, wb, wc, wl⟩⟩ := x
    rw [Rnd.wrapS (by omega) (by omega), Rnd.wrapS (by omega) (by omega)]
    refine ⟨hl.ob (by omega) (by omega), y1, y2, y3, y4, y5, y6, y7, y8, y9, y10, ya, yb, yc, za, zb, zc, wa, wb, wc, hxr, fun t H' => match t with | [.int _ j] => 0 ≤ j ∧ j ≤ k ∧ H' = H ∧ ∀ p ∈ ps.take j.toNat, p (y1, y2, y3, y4, y5, y6, y7, y8, y9, y10, ⟨ya, yb, yc, yl⟩, ⟨za, zb, zc, zl⟩, ⟨wa, wb, wc, wl⟩) = true | _ => False, fun t _ => match t with | [.int _ j] => (k - j).toNat | _ => 0, ⟨by omega, by omega, rfl, by simp⟩, ?_⟩
    rintro j H34 ⟨j0, j1, hH, hall⟩
    obtain rfl := hH.symm
    obtain ⟨j, rfl⟩ : ∃ z : Nat, j = z := ⟨j.toNat, by omega⟩
    rw [Int.toNat_natCast] at hall
    refine ⟨fun hj => ?_, fun hj => ?_⟩
    · have hj' : j < k := by simpa using hj
      obtain ⟨f, hfj, hfr⟩ := hf.ex (i := (j : Int)) (by omega) (by omega)
      rw [Int.toNat_natCast] at hfj
      obtain ⟨p, hp⟩ : ∃ p, ps[j]? = some p := ⟨_, List.getElem?_eq_getElem (by omega)⟩
      refine ⟨hf.ob (by omega) (by omega), f, hfr, htx j f p hfj hp _ ⟨_, rfl, fun e => ?_, fun e => ?_⟩⟩
      · have hpf : p (y1, y2, y3, y4, y5, y6, y7, y8, y9, y10, ⟨ya, yb, yc, yl⟩, ⟨za, zb, zc, zl⟩, ⟨wa, wb, wc, wl⟩) = false := by simpa using e
        refine ⟨⟨by omega, by omega, rfl, ?_⟩, ⟨by simp only; omega⟩⟩
        rw [show ((i : Int) + 1).toNat = i + 1 by omega, hsn, hpi j p hp hpf]; simp
      · have hpt : p (y1, y2, y3, y4, y5, y6, y7, y8, y9, y10, ⟨ya, yb, yc, yl⟩, ⟨za, zb, zc, zl⟩, ⟨wa, wb, wc, wl⟩) = true := by simpa using e
        rw [Rnd.wrapS (by omega) (by omega)]
        refine ⟨⟨by omega, by omega, rfl, fun q hq => ?_⟩, ⟨by simp only; omega⟩⟩
        rw [show ((j : Int) + 1).toNat = j + 1 by omega, List.take_add_one, hp] at hq
        rcases List.mem_append.1 hq with hq | hq
        · exact hall q hq
        · simp at hq; subst hq; exact hpt
    · have hj' : ¬ j < k := by simpa using hj
      rw [List.take_of_length_le (by omega)] at hall
      refine ⟨⟨by omega, by omega, rfl, ?_⟩, ⟨by simp only; omega⟩⟩
      rw [show ((i : Int) + 1).toNat = i + 1 by omega, hsn, hpall hall]; simp
  · have hi' : ¬ i < n := by simpa using hi
    rw [List.take_of_length_le (by omega)]
    exact ⟨rfl, rfl⟩
theorem sHold_ok {H : PHeap} {oa : Option Addr} {n c : Nat} {L : List Msg} {v : Val} (hl : RdL H mE 13 oa n L) (hn : n ≤ 100000) :
    Triple Tryz.prog 164 #[.slice oa n c, v.v] H fun w H' => ∃ b k q, w = .slice b k q ∧ OwnL H' 3 iE 1 b k q (holdL v L) ∧ Sub H H' ∧ Off H b := by
  have hll := hl.len
  refine sHold.vc oa n c v.pr v.at_ v.ep v.sz H _ ⟨fun t H' => match t with | [.slice b k q, .int _ i] => 0 ≤ i ∧ i ≤ n ∧ OwnL H' 3 iE 1 b k q (holdL v (L.take i.toNat)) ∧ Sub H H' ∧ Off H b | _ => False, fun t _ => match t with | [_, .int _ i] => (n - i).toNat | _ => 0, ⟨by omega, by omega, Owns.nil _ _ 1, Sub.refl _, Off.none _⟩, ?_⟩
  rintro b k q i H14 ⟨i0, i1, ho, hs, hoff⟩
  obtain ⟨i, rfl⟩ : ∃ j : Nat, i = j := ⟨i.toNat, by omega⟩
  rw [Int.toNat_natCast] at ho
  refine ⟨fun hi => ?_, fun hi => ?_⟩
  · have hi' : i < n := by simpa using hi
    have hl14 := hl.mono hs
    obtain ⟨x, hx, hxr⟩ := hl14.ex (i := (i : Int)) (by omega) (by omega)
    rw [Int.toNat_natCast] at hx
    have hkl := (ho.rd (E := iE) (sz := 1) (by omega) Rnd.iLen).len
    have hle := hold_len v (L.take i)
    rw [List.length_take] at hle
    have hsn : holdL v (L.take (i + 1)) = holdL v (L.take i) ++ if holdsM v x then [from_ x] else [] := by rw [List.take_add_one, hx]; exact hold_snoc _ _ _
    have hh : ∀ y10 y6 y7 : Int, what_ x = y10 → att_ x = y6 → ep_ x = y7 → holdsM v x = (bif v.pr then bif y10 == 2 then bif y6 == v.at_ then y7 == v.ep else false else false else false) := by
      rintro _ _ _ rfl rfl rfl
      simp only [holdsM]
      cases v.pr <;> cases what_ x == 2 <;> cases att_ x == v.at_ <;> cases ep_ x == v.ep <;> rfl
    obtain ⟨y1, y2, y3, y4, y5, y6, y7, y8, y9, y10, ⟨ya, yb, yc, yl⟩, ⟨za, zb, zc, zl⟩, ⟨wa, wb, wc, wl⟩⟩ := x
    have hh' := hh y10 y6 y7 rfl rfl rfl
    rw [Rnd.wrapS (by omega) (by omega)]
    refine ⟨hl14.ob (by omega) (by omega), y1, y2, y3, y4, y5, y6, y7, y8, y9, y10, ya, yb, yc, za, zb, zc, wa, wb, wc, hxr, fun e k34 hk34 => ?_, fun e => ?_⟩
    · rw [hh', e, if_pos rfl] at hsn
      refine append_one Rnd.tI (E := iE) (x := y2) hk34 Rnd.iLen ho rfl (Rnd.iOne _) (by simp [maxLen]; omega) (by omega) ?_
      intro b' q' H' how hf hfr _
      exact ⟨b', k + 1, q', rfl, ⟨by omega, by omega, by rw [show ((i : Int) + 1).toNat = i + 1 by omega, hsn]; exact how, hf.sub hs hoff, hfr.off hs hoff⟩, ⟨by simp only; omega⟩⟩
    · rw [hh', e] at hsn
      simp only [Bool.false_eq_true, if_false, List.append_nil] at hsn
      exact ⟨⟨by omega, by omega, by rw [show ((i : Int) + 1).toNat = i + 1 by omega, hsn]; exact ho, hs, hoff⟩, ⟨by simp only; omega⟩⟩
  · have hi' : ¬ i < n := by simpa using hi
    rw [List.take_of_length_le (by omega)] at ho
    exact ⟨b, k, q, rfl, ho, hs, hoff⟩
end Go.Stl
namespace Go.Stl
open Go.Vx Go.Vc Go.Proofs Go.Pln
abbrev Verd.cs (w : Verd) (b : Option Addr) (n c : Nat) : List Value := [.bool w.enough, .bool w.clean, .bool w.value.pr, vI w.value.at_, vI w.value.ep, vI w.value.sz, vI w.mark, .slice b n c]
/-- A verdict lies in a variable of its own. -/
structure VS (t : TypeId) (F H : PHeap) (k : Nat) (w : Verd) : Prop where
  sub : Sub F H
  off : F k = none
  row : ∃ b n c, Bx H k t (w.cs b n c) ∧ OwnL H 3 iE 1 b n c w.holders ∧ Off F b ∧ ∀ a, b = some a → a.block ≠ k
theorem VS.mono {t : TypeId} {F H H' : PHeap} {k : Nat} {w : Verd} (h : VS t F H k w) (hs : Sub H H') : VS t F H' k w := by
  obtain ⟨s, o, b, n, c, h1, h2, h3, h4⟩ := h
  exact ⟨s.trans hs, o, b, n, c, h1.sub hs, h2.mono fun a o _ ho => hs.le _ _ ho, h3, h4⟩
theorem VS.put {t : TypeId} {F H : PHeap} {k : Nat} {w : Verd} (h : VS t F H k w) {w' : Verd} {i : Nat} {x : Value} (he : ∀ b n c, (w.cs b n c).set i x = w'.cs b n c) (hh : w'.holders = w.holders) (hi : i < 8) :
    ∃ H', Writes H H' (fldA (at0 k) i) [x] ∧ VS t F H' k w' := by
  obtain ⟨s, o, b, n, c, h1, h2, h3, h4⟩ := h
  have hw := h1.put (i := i) (x := x) hi
  rw [he] at hw
  exact ⟨_, hw, s.wr o, o, b, n, c, Bx.new H k t _, by rw [hh]; exact h2.mono fun a o ha ho => by rw [Vx.upd_ne _ _ (h4 a ha)]; exact ho, h3, h4⟩
theorem VS.val {t : TypeId} {F H : PHeap} {k : Nat} {w : Verd} (h : VS t F H k w) (v : Val) : ∃ H', Writes H H' (fldA (at0 k) 2) v.c ∧ VS t F H' k ⟨w.enough, w.clean, v, w.mark, w.holders⟩ := by
  obtain ⟨s, o, b, n, c, h1, h2, h3, h4⟩ := h
  have hw := (h1.writes ((⟨w.enough, w.clean, v, w.mark, w.holders⟩ : Verd).cs b n c) rfl).part (A := [.bool w.enough, .bool w.clean]) (l2 := v.c) (B := [vI w.mark, .slice b n c]) (old := w.value.c) h1.reads rfl
  exact ⟨_, hw, s.wr o, o, b, n, c, Bx.new H k t _, h2.mono fun a o ha ho => by rw [Vx.upd_ne _ _ (h4 a ha)]; exact ho, h3, h4⟩
theorem VS.app {t : TypeId} {F H H' : PHeap} {k : Nat} {w : Verd} {b b' : Option Addr} {n c n' c' : Nat} {l' : List Int} (s : Sub F H) (o : F k = none) (h1 : Bx H k t (w.cs b n c)) (h3 : Off F b) (h4 : ∀ a, b = some a → a.block ≠ k)
    (hw : OwnL H' 3 iE 1 b' n' c' l') (hf : Vx.Frame b H H') (hfr : Vx.Fresh b b' H) : ∃ H3, Writes H' H3 (fldA (at0 k) 7) [.slice b' n' c'] ∧ VS t F H3 k ⟨w.enough, w.clean, w.value, w.mark, l'⟩ := by
  have b1 := hf.bx h1 h4
  have hne := hfr.ne h1 h4
  exact ⟨_, b1.put (i := 7) (x := .slice b' n' c') (by show 7 < 8; decide), (hf.sub s h3).wr o, o, b', n', c', Bx.new _ k t _, hw.mono fun a o ha ho => by rw [Vx.upd_ne _ _ (hne a ha)]; exact ho, hfr.off s h3, hne⟩
theorem VS.mk6 {t : TypeId} {F H : PHeap} {k : Nat} {w : Verd} (h : VS t F H k w) : Reads H (fldA (at0 k) 6) [vI w.mark] := by
  obtain ⟨s, o, b, n, c, h1, h2, h3, h4⟩ := h
  exact h1.fld rfl
theorem VS.val2 {t : TypeId} {F H : PHeap} {k : Nat} {w : Verd} (h : VS t F H k w) : Reads H (fldA (at0 k) 2) w.value.c := by
  obtain ⟨s, o, b, n, c, h1, h2, h3, h4⟩ := h
  exact h1.readsAt 2 fun j v hv => by
    match j, hv with
    | 0, hv => exact hv
    | 1, hv => exact hv
    | 2, hv => exact hv
    | 3, hv => exact hv
    | j + 4, hv => simp at hv
/-- A verdict is handed out. -/
abbrev GivesV (w : Verd) (H : PHeap) (v : Value) (H' : PHeap) : Prop := ∃ b n c, v = .agg (w.cs b n c).toArray ∧ OwnL H' 3 iE 1 b n c w.holders ∧ Sub H H' ∧ Off H b
theorem VS.done {t : TypeId} {F H : PHeap} {k : Nat} {w : Verd} (h : VS t F H k w) : ∃ b n c, Reads H (at0 k) (w.cs b n c) ∧ GivesV w F (.agg (w.cs b n c).toArray) H := by
  obtain ⟨s, o, b, n, c, h1, h2, h3, h4⟩ := h
  exact ⟨b, n, c, h1.reads, b, n, c, rfl, h2, s, h3⟩
theorem VS.start {t : TypeId} {H : PHeap} {k : Nat} (hk : H k = none) : VS t H (H.upd k (.cells (verd0.cs none 0 0).toArray t (0, 0))) k verd0 :=
  ⟨Sub.upd _ hk, hk, none, 0, 0, Bx.new H k t _, Owns.nil _ _ 1, Off.none _, fun a h => by cases h⟩
def verdW (p : Plan) (L : List Msg) (h : List Int) : Verd :=
    ⟨decide ((cntM soundM L : Int) ≥ p.n - p.w + 1), cntM leftM L == 0 && ((best L).1 == 0 || decide ((cntM (fun m => markedM m && mark_ m == (best L).1) L : Int) ≥ p.w)), (best L).2, (best L).1, h⟩
theorem verd_ok {p : Plan} {L : List Msg} (e : p.ok = true) : verd p L = verdW p L (holdL (best L).2 (L.filter fun m => kind_ m == 14)) := if_pos e
theorem verd_no {p : Plan} {L : List Msg} (e : p.ok = false) : verd p L = verd0 := if_neg (by rw [e]; decide)
theorem f14_snoc (L : List Msg) (m : Msg) (v : Val) : holdL v ((L ++ [m]).filter fun m => kind_ m == 14) = holdL v (L.filter fun m => kind_ m == 14) ++ if kind_ m == 14 then holdL v [m] else [] := by
  rw [List.filter_append]
  cases h : kind_ m == 14
  · simp [h]
  · simp only [List.filter_cons, h, if_true, List.filter_nil]
    unfold holdL
    rw [List.filter_append, List.map_append]
theorem f14_len (v : Val) (L : List Msg) : (holdL v (L.filter fun m => kind_ m == 14)).length ≤ L.length := Nat.le_trans (hold_len v _) (List.length_filter_le ..)
theorem fsRd {H : PHeap} {k : Nat} {t : TypeId} {fs : List Value} (h : Bx H k t fs) : RdL H fE 1 (at0 k) fs.length fs :=
  Bx.rd (E := fE) (fun _ => rfl) (by rw [show fs.flatMap fE = fs by induction fs with | nil => rfl | cons x l ih => simp [fE]]; exact h)
abbrev tSV : TypeId := 166
theorem sSettle_ok {H : PHeap} {p : Plan} {oa : Option Addr} {n c : Nat} {L : List Msg} (hl : RdL H mE 13 oa n L) (hw : ∀ x ∈ L, RdL H iE 1 (who_ x).oa (who_ x).n (who_ x).l) (hn : n ≤ 100000) :
    Triple Tryz.prog 135 #[p.v, .slice oa n c] H (GivesV (verd p L) H) := by
  have hll := hl.len
  refine sSettle.vc p.n p.t p.l p.w p.s p.r oa n c H _ fun k hk => ?_
  have v0 : VS tSV H _ k verd0 := VS.start hk
  refine (right_ok p).use ⟨_, rfl, fun e => ?_, fun e => ?_⟩
  · obtain ⟨b, m, q, hr, hg⟩ := v0.done
    rw [verd_no (by simpa using e)]
    exact ⟨_, _, _, _, _, _, _, _, _, _, hr, hg⟩
  have e' : p.ok = true := by simpa using e
  have pok := Plan.ok_iff.1 e'
  rw [verd_ok e']
  refine ⟨fun t H' => match t with | [.int _ i] => 0 ≤ i ∧ i ≤ n ∧ VS tSV H H' k ⟨false, false, (best (L.take i.toNat)).2, (best (L.take i.toNat)).1, []⟩ | _ => False, fun t _ => match t with | [.int _ i] => (n - i).toNat | _ => 0, ⟨by omega, by omega, v0⟩, ?_⟩
  rintro i H27 ⟨i0, i1, vs⟩
  obtain ⟨i, rfl⟩ : ∃ j : Nat, i = j := ⟨i.toNat, by omega⟩
  rw [Int.toNat_natCast] at vs
  refine ⟨fun hi => ?_, fun hi => ?_⟩
  · have hi' : i < n := by simpa using hi
    obtain ⟨x, hx, hxr⟩ := (hl.mono vs.sub).ex (i := (i : Int)) (by omega) (by omega)
    rw [Int.toNat_natCast] at hx
    have hst : best (L.take (i + 1)) = bestStep (best (L.take i)) x := by rw [List.take_add_one, hx]; exact best_snoc _ _
    have hva := sValue_ok x
    have hmk : ∀ y8, mark_ x = y8 → bestStep (best (L.take i)) x = if markedM x && decide (y8 > (best (L.take i)).1) then (y8, valueM x) else best (L.take i) := by rintro _ rfl; rfl
    generalize valueM x = va at hva hmk
    generalize markedM x = mk at hva hmk
    obtain ⟨y1, y2, y3, y4, y5, y6, y7, y8, y9, y10, ⟨ya, yb, yc, yl⟩, ⟨za, zb, zc, zl⟩, ⟨wa, wb, wc, wl⟩⟩ := x
    have hmk' := hmk y8 rfl
    rw [Rnd.wrapS (by omega) (by omega)]
    refine ⟨(hl.mono vs.sub).ob (by omega) (by omega), y1, y2, y3, y4, y5, y6, y7, y8, y9, y10, ya, yb, yc, za, zb, zc, wa, wb, wc, hxr, hva.use ⟨_, _, _, _, _, rfl, fun e1 => ?_, fun e1 => ?_⟩⟩
    · refine ⟨obP k, _, vs.mk6, fun e2 => ?_, fun e2 => ?_⟩
      · rw [e1, e2] at hmk'
        obtain ⟨H56, w56, vs56⟩ := vs.put (w' := ⟨false, false, (best (L.take i)).2, y8, []⟩) (i := 6) (x := vI y8) (fun _ _ _ => rfl) rfl (by decide)
        obtain ⟨H57, w57, vs57⟩ := vs56.val va
        refine ⟨H, vs.sub, obP k, H56, w56, vs56.sub, obP k, H57, w57, ⟨by omega, by omega, ?_⟩, ⟨by simp only; omega⟩⟩
        rw [show ((i : Int) + 1).toNat = i + 1 by omega, hst, hmk']; exact vs57
      · rw [e1, e2] at hmk'
        refine ⟨⟨by omega, by omega, ?_⟩, ⟨by simp only; omega⟩⟩
        rw [show ((i : Int) + 1).toNat = i + 1 by omega, hst, hmk']; exact vs
    · have e1' : mk = false := by simpa using e1
      rw [e1'] at hmk'
      refine ⟨⟨by omega, by omega, ?_⟩, ⟨by simp only; omega⟩⟩
      rw [show ((i : Int) + 1).toNat = i + 1 by omega, hst, hmk']; exact vs
  · have hi' : ¬ i < n := by simpa using hi
    rw [List.take_of_length_le (by omega)] at vs
    have cl : ∀ p : Msg → Bool, (cntM p L : Int) ≤ n := fun p => by have := cnt_le p L; omega
    have hone : ∀ p : Msg → Bool, cntM (fun x => [p].all fun p => p x) L = cntM p L := fun p => by simp
    refine ⟨H27, Sub.refl _, fun k59 hk59 => ⟨Sub.upd _ hk59, ?_⟩⟩
    have s59 : Sub H27 (H27.upd k59 (Obj.cells #[Value.func (Fn.func 161) #[] #[]] 91)) := Sub.upd _ hk59
    have b59 : Bx (H27.upd k59 (Obj.cells #[Value.func (Fn.func 161) #[] #[]] 91)) k59 91 [Value.func (Fn.func 161) #[] #[]] := Bx.new H27 k59 _ _
    refine (count_ok (fs := [Value.func (Fn.func 161) #[] #[]]) (ps := [soundM]) ((hl.mono vs.sub).mono s59) (fsRd b59) rfl hn (by decide) fun j f q h1 h2 x hx Q hQ => ?_).mono ?_
    · match j, h1, h2 with
      | 0, h1, h2 =>
        simp at h1 h2; subst h1 h2
        refine CallY.fn (by kernel_rfl) ((sSound_ok (((hw x hx).mono vs.sub).mono s59)).mono ?_)
        rintro _ H' ⟨rfl, hH⟩
        rw [hH]; exact hQ
      | j + 1, h1, h2 => simp at h1
    rintro _ H61 ⟨rfl, hH⟩
    rw [hone, hH]
    refine ⟨_, rfl, s59, (quorum_ok _ p).mono ?_⟩
    rintro _ H64 ⟨rfl, s64⟩
    rw [if_pos e']
    refine ⟨_, rfl, obP k, ?_⟩
    have vs61 := (vs.mono s59).mono s64
    obtain ⟨H66, w66, vs66⟩ := vs61.put (w' := ⟨decide ((cntM soundM L : Int) ≥ p.n - p.w + 1), false, (best L).2, (best L).1, []⟩) (i := 0) (x := .bool (decide ((cntM soundM L : Int) ≥ p.n - p.w + 1))) (fun _ _ _ => rfl) rfl (by decide)
    refine ⟨H66, w66, ?_⟩
    apply both (C := fun H' => VS tSV H H' k (verdW p L []))
    · intro key
      refine ⟨H66, Sub.refl _, fun k68 hk68 => ⟨Sub.upd _ hk68, ?_⟩⟩
      have s68 : Sub H66 (H66.upd k68 (Obj.cells #[Value.func (Fn.func 162) #[] #[]] 91)) := Sub.upd _ hk68
      have b68 : Bx (H66.upd k68 (Obj.cells #[Value.func (Fn.func 162) #[] #[]] 91)) k68 91 [Value.func (Fn.func 162) #[] #[]] := Bx.new H66 k68 _ _
      have vs68 := vs66.mono s68
      generalize h68 : H66.upd k68 (Obj.cells #[Value.func (Fn.func 162) #[] #[]] 91) = H70 at s68 b68 vs68 ⊢
      refine (count_ok (fs := [Value.func (Fn.func 162) #[] #[]]) (ps := [leftM]) (hl.mono vs68.sub) (fsRd b68) rfl hn (by decide) fun j f q h1 h2 x hx Q hQ => ?_).mono ?_
      · match j, h1, h2 with
        | 0, h1, h2 =>
          simp at h1 h2; rw [← h1]; rw [← h2] at hQ
          refine CallY.fn (by kernel_rfl) ((sLeft_ok ((hw x hx).mono vs68.sub)).mono ?_)
          rintro _ H' ⟨hv, hH⟩
          rw [hv, hH]; exact hQ
        | j + 1, h1, h2 => simp at h1
      intro v69 H70' h70
      rw [hone] at h70
      rw [h70.1, h70.2]
      refine ⟨_, rfl, s68, fun e1 => ⟨obP k, _, vs66.mk6, fun e2 => ?_, fun e2 => ?_⟩, fun e1 => ?_⟩
      · intro k73 hk73
        have s73 := Sub.upd (Obj.cells #[Value.func (Fn.func 163) #[] #[], Value.func (Fn.func 159) #[] #[Value.pointer (at0 k)]] 91) hk73
        have b73 : Bx (H70.upd k73 (Obj.cells #[Value.func (Fn.func 163) #[] #[], Value.func (Fn.func 159) #[] #[Value.pointer (at0 k)]] 91)) k73 91 [Value.func (Fn.func 163) #[] #[], Value.func (Fn.func 159) #[] #[Value.pointer (at0 k)]] := Bx.new H70 k73 _ _
        have vs73 := vs68.mono s73
        have s73' := s68.trans s73
        generalize h73 : H70.upd k73 (Obj.cells #[Value.func (Fn.func 163) #[] #[], Value.func (Fn.func 159) #[] #[Value.pointer (at0 k)]] 91) = H75 at s73 b73 vs73 s73' ⊢
        refine ⟨s73', (count_ok (fs := [Value.func (Fn.func 163) #[] #[], Value.func (Fn.func 159) #[] #[Value.pointer (at0 k)]]) (ps := [markedM, fun m => mark_ m == (best L).1]) (hl.mono vs73.sub) (fsRd b73) rfl hn (by simp) fun j f q h1 h2 x hx Q hQ => ?_).mono ?_⟩
        · match j, h1, h2 with
          | 0, h1, h2 =>
            simp at h1 h2; rw [← h1]; rw [← h2] at hQ
            exact CallY.fn (by kernel_rfl) ((sMarked_ok x).use hQ)
          | 1, h1, h2 =>
            simp at h1 h2; rw [← h1]; rw [← h2] at hQ
            refine CallY.fn (by kernel_rfl) ?_
            obtain ⟨y1, y2, y3, y4, y5, y6, y7, y8, y9, y10, ⟨ya, yb, yc, yl⟩, ⟨za, zb, zc, zl⟩, ⟨wa, wb, wc, wl⟩⟩ := x
            exact sSettle1.vc y1 y2 y3 y4 y5 y6 y7 y8 y9 y10 ya yb yc za zb zc wa wb wc (at0 k) H75 Q ⟨obP k, _, vs73.mk6, hQ⟩
          | j + 2, h1, h2 => simp at h1
        intro v74 H75' h75
        have h2 : cntM (fun x => [markedM, fun m => mark_ m == (best L).1].all fun p => p x) L = cntM (fun m => markedM m && mark_ m == (best L).1) L := by simp
        rw [h2] at h75
        rw [h75.1, h75.2]
        obtain ⟨H77, w77, vs77⟩ := vs73.put (w' := verdW p L []) (i := 1) (x := .bool (decide ((cntM (fun m => markedM m && mark_ m == (best L).1) L : Int) ≥ p.w))) (fun _ _ _ => by
          have e1' : (cntM leftM L == 0) = true := by simpa using e1
          have e2' : ((best L).1 == 0) = false := e2
          simp only [verdW, Verd.cs, e1', e2', Bool.true_and, Bool.false_or, List.set]) rfl (by decide)
        exact ⟨_, rfl, s73', obP k, H77, w77, key H77 vs77⟩
      · obtain ⟨H77, w77, vs77⟩ := vs68.put (w' := verdW p L []) (i := 1) (x := .bool true) (fun _ _ _ => by
          have e1' : (cntM leftM L == 0) = true := by simpa using e1
          have e2' : ((best L).1 == 0) = true := by simpa using e2
          simp only [verdW, Verd.cs, e1', e2', Bool.true_and, Bool.true_or, List.set]) rfl (by decide)
        exact ⟨obP k, H77, w77, key H77 vs77⟩
      · obtain ⟨H77, w77, vs77⟩ := vs68.put (w' := verdW p L []) (i := 1) (x := .bool false) (fun _ _ _ => by
          have e1' : (cntM leftM L == 0) = false := by simpa using e1
          simp only [verdW, Verd.cs, e1', Bool.false_and, List.set]) rfl (by decide)
        exact ⟨obP k, H77, w77, key H77 vs77⟩
    · intro H77 vs77
      refine ⟨fun t H' => match t with | [.int _ i] => 0 ≤ i ∧ i ≤ n ∧ VS tSV H H' k (verdW p L (holdL (best L).2 ((L.take i.toNat).filter fun m => kind_ m == 14))) | _ => False, fun t _ => match t with | [.int _ i] => (n - i).toNat | _ => 0, ⟨by omega, by omega, vs77⟩, ?_⟩
      rintro i H81 ⟨i0, i1, vs⟩
      obtain ⟨i, rfl⟩ : ∃ j : Nat, i = j := ⟨i.toNat, by omega⟩
      rw [Int.toNat_natCast] at vs
      refine ⟨fun hi => ?_, fun hi => ?_⟩
      · have hi' : i < n := by simpa using hi
        obtain ⟨x, hx, hxr⟩ := (hl.mono vs.sub).ex (i := (i : Int)) (by omega) (by omega)
        rw [Int.toNat_natCast] at hx
        have hst := f14_snoc (L.take i) x (best L).2
        rw [show L.take i ++ [x] = L.take (i + 1) by rw [List.take_add_one, hx]; rfl] at hst
        have hlen := f14_len (best L).2 (L.take i)
        rw [List.length_take] at hlen
        have hme : ∀ (H : PHeap) (k : Nat), Bx H k 52 (mE x) → RdL H mE 13 (at0 k) 1 [x] := fun H k h => Bx.rd (E := mE) (l := [x]) Rnd.mLen (by simpa using h)
        have hl1 := hold_len (best L).2 [x]
        have hmB : ∀ (H : PHeap) (k : Nat), H k = none → Bx (H.upd k (.cells (mE x).toArray 52 (0, 0))) k 52 (mE x) := fun H k _ => Bx.new H k _ _
        generalize hX : holdL (best L).2 [x] = X at hst hl1
        have hho : ∀ {G : PHeap} {oa : Option Addr} {c : Nat}, RdL G mE 13 oa 1 [x] → Triple Tryz.prog 164 #[.slice oa 1 c, (best L).2.v] G fun w H' => ∃ b k q, w = .slice b k q ∧ OwnL H' 3 iE 1 b k q X ∧ Sub G H' ∧ Off G b := fun h => by
          rw [← hX]; exact sHold_ok h (by decide)
        have hkx : ∀ y1, kind_ x = y1 → (kind_ x == 14) = (y1 == 14) := by rintro _ rfl; rfl
        obtain ⟨y1, y2, y3, y4, y5, y6, y7, y8, y9, y10, ⟨ya, yb, yc, yl⟩, ⟨za, zb, zc, zl⟩, ⟨wa, wb, wc, wl⟩⟩ := x
        rw [hkx y1 rfl] at hst
        rw [Rnd.wrapS (by omega) (by omega)]
        refine ⟨(hl.mono vs.sub).ob (by omega) (by omega), y1, y2, y3, y4, y5, y6, y7, y8, y9, y10, ya, yb, yc, za, zb, zc, wa, wb, wc, hxr, fun e1 k101 hk101 => ?_, fun e1 => ?_⟩
        · rw [e1, if_pos rfl] at hst
          have b101 := hmB H81 k101 hk101
          have s101 := Sub.upd (.cells (mE (y1, y2, y3, y4, y5, y6, y7, y8, y9, y10, ⟨ya, yb, yc, yl⟩, ⟨za, zb, zc, zl⟩, ⟨wa, wb, wc, wl⟩)).toArray 52 (0, 0)) hk101
          refine ⟨obP k, _, _, _, _, (vs.mono s101).val2, (hho (hme _ _ b101)).mono ?_⟩
          rintro _ H107 ⟨b, m, q, rfl, hX2, s107, o107⟩
          have vs107 := (vs.mono s101).mono s107
          obtain ⟨s, o, b2, n2, c2, h1, h2, h3, h4⟩ := vs107
          have hm := (hX2.rd (E := iE) (sz := 1) (by omega) Rnd.iLen).len
          have hn2 := (h2.rd (E := iE) (sz := 1) (by omega) Rnd.iLen).len
          have hn2' : n2 ≤ 100000 := by rw [← hn2]; simp only [verdW]; omega
          have hm' : m ≤ 1 := by rw [← hm]; simpa using hl1
          refine ⟨_, _, _, rfl, obP k, b2, n2, c2, h1.fld rfl, append_rd Rnd.tI Rnd.iLen h2 (hX2.rd (E := iE) (sz := 1) (by omega) Rnd.iLen) Rnd.iOne (by simp [maxLen]; omega) (by omega) ?_⟩
          intro b' c' H115 how hf hfr
          obtain ⟨H119, w119, vs119⟩ := VS.app s o h1 h3 h4 how hf hfr
          refine ⟨_, _, _, rfl, obP k, H119, w119, ⟨by omega, by omega, ?_⟩, ⟨by simp only; omega⟩⟩
          rw [show ((i : Int) + 1).toNat = i + 1 by omega, hst]; exact vs119
        · rw [e1] at hst
          simp only [Bool.false_eq_true, if_false, List.append_nil] at hst
          refine ⟨⟨by omega, by omega, ?_⟩, ⟨by simp only; omega⟩⟩
          rw [show ((i : Int) + 1).toNat = i + 1 by omega, hst]; exact vs
      · have hi' : ¬ i < n := by simpa using hi
        rw [List.take_of_length_le (by omega)] at vs
        obtain ⟨b, m, q, hr, hg⟩ := vs.done
        exact ⟨_, _, _, _, _, _, _, _, _, _, hr, hg⟩
end Go.Stl
namespace Go.Agr
open Go.Vx Go.Vc Go.Proofs Go.Pln Go.Stl
open Go.Rnd (takesG insG froms againG)
abbrev Msg := Rnd.Msg
structure St where
  p : Plan
  ballot : Int
  name : ByteArray
  force : Bool
  live : Bool
  over : Bool
  mark : Int
  asks : List Msg
  wait : List Int
  G : List Msg
  tries : Int
  ok : Bool
  fixed : Bool
  value : Val
  holders : List Int
  acks : List Int
  said : List Msg
def ids (p : Plan) : List Int := (List.range p.n.toNat).map fun i : Nat => (i : Int) + 1
theorem ids_len (p : Plan) : (ids p).length = p.n.toNat := by simp [ids]
def askAll (p : Plan) (b : Int) (nm : ByteArray) (m : Msg) : List Msg := (ids p).map fun i => (m.1, m.2.1, i, b, nm, m.2.2.2.2.2)
def mask : Msg := (1, 0, 0, 0, ⟨#[]⟩, 0, 0, 0, 0, 0, ⟨none, 0, 0, []⟩, ⟨none, 0, 0, []⟩, ⟨none, 0, 0, []⟩)
def mfix (mark : Int) (v : Val) : Msg := (4, 0, 0, 0, ⟨#[]⟩, if v.pr then v.at_ else 0, if v.pr then v.ep else 0, mark, if v.pr then v.sz else 0, if v.pr then 1 else 0, ⟨none, 0, 0, []⟩, ⟨none, 0, 0, []⟩, ⟨none, 0, 0, []⟩)
def St.ask (s : St) (m : Msg) : St × List Msg := ({ s with asks := askAll s.p s.ballot s.name m, wait := ids s.p, G := [], tries := maxI s.p.r 0 }, askAll s.p s.ballot s.name m)
def St.fix (s : St) (v : Val) : St × List Msg := St.ask { s with fixed := true, value := v } (mfix s.mark v)
def St.end_ (s : St) (ok : Bool) : St := { s with over := true, ok := ok }
def allG (wait : List Int) (G : List Msg) : Bool := wait.all fun i => decide (i ∈ froms G)
def ackL (G : List Msg) : List Msg := G.filter fun m => kind_ m == 17
def St.counted (s : St) : St := { s with acks := (ackL s.G).map from_, holders := holdL s.value (ackL s.G) }
def St.num (s : St) : Nat := if s.live then (holdL s.value (ackL s.G)).length else (ackL s.G).length
def St.judge0 (s : St) : St × List Msg :=
  if (verd s.p s.G).enough then
    if (verd s.p s.G).clean && !s.force then (St.end_ { s with said := s.G, value := (verd s.p s.G).value, holders := (verd s.p s.G).holders } true, [])
    else St.fix { s with said := s.G } (verd s.p s.G).value
  else if allG s.wait s.G then (s.end_ false, []) else (s, [])
def St.judge1 (s : St) : St × List Msg :=
  if decide ((s.num : Int) ≥ s.p.w) || allG s.wait s.G then (s.counted.end_ (decide ((s.num : Int) ≥ s.p.w)), []) else (s.counted, [])
def St.judge (s : St) : St × List Msg := if s.fixed then s.judge1 else s.judge0
def St.takes (s : St) (m : Msg) : Bool :=
  m.2.2.2.1 == s.ballot && eqS m.2.2.2.2.1 s.name &&
    (if s.fixed then
      (if kind_ m == 16 then what_ m == 4 && mark_ m == s.mark
       else kind_ m == 17 && mark_ m == s.mark && (if s.value.pr then (what_ m == 2 || what_ m == 3) && att_ m == s.value.at_ && ep_ m == s.value.ep else what_ m == 4))
     else kind_ m == 14)
def St.got (s : St) (m : Msg) : St := { s with G := insG s.G m }
def St.take (s : St) (m : Msg) : St × List Msg :=
  if s.over then (s, []) else if s.takes m && takesG s.wait s.G m then
    if allG s.wait (insG s.G m) then (s.got m).judge else (s.got m, [])
  else (s, [])
def St.late (s : St) : St × List Msg := if s.tries = 0 then (s.end_ false, []) else ({ s with tries := IntKind.i64.wrap (s.tries - 1) }, againG s.asks s.G)
def St.tick (s : St) : St × List Msg :=
  if s.over then (s, []) else if s.judge.1.over || (s.judge.1.fixed != s.fixed) then s.judge else s.judge.1.late
structure Same (s t : St) : Prop where
  p : t.p = s.p
  fixed : t.fixed = s.fixed
  tries : t.tries = s.tries
  wait : t.wait = s.wait
  G : t.G = s.G
  asks : t.asks = s.asks
  mark : t.mark = s.mark
/-- A judgement: the same round goes on, with nothing to ask; or a value begins to be fixed. -/
theorem judge_cases (s : St) : (Same s s.judge.1 ∧ s.judge.2 = []) ∨ (s.fixed = false ∧ ∃ t v, Same s t ∧ t.over = s.over ∧ t.ok = s.ok ∧ v = (verd s.p s.G).value ∧ (verd s.p s.G).enough = true ∧ s.judge = t.fix v) := by
  unfold St.judge
  cases hf : s.fixed with
  | true =>
    left
    simp only [if_true]
    unfold St.judge1
    split
    · exact ⟨⟨rfl, rfl, rfl, rfl, rfl, rfl, rfl⟩, rfl⟩
    · exact ⟨⟨rfl, rfl, rfl, rfl, rfl, rfl, rfl⟩, rfl⟩
  | false =>
    simp only [Bool.false_eq_true, if_false]
    unfold St.judge0
    cases he : (verd s.p s.G).enough with
    | true =>
      simp only [if_true]
      split
      · exact .inl ⟨⟨rfl, rfl, rfl, rfl, rfl, rfl, rfl⟩, rfl⟩
      · exact .inr ⟨by first | rfl | trivial, { s with said := s.G }, _, ⟨rfl, rfl, rfl, rfl, rfl, rfl, rfl⟩, rfl, rfl, rfl, by first | rfl | trivial, rfl⟩
    | false =>
      left
      simp only [Bool.false_eq_true, if_false]
      split
      · exact ⟨⟨rfl, rfl, rfl, rfl, rfl, rfl, rfl⟩, rfl⟩
      · exact ⟨⟨rfl, rfl, rfl, rfl, rfl, rfl, rfl⟩, rfl⟩
theorem fix_fixed (s : St) (v : Val) : (s.fix v).1.fixed = true := rfl
def St.bd (s : St) : Int := if s.fixed then 2 * maxI s.p.r 0 + 1 else maxI s.p.r 0
/-- So many ticks went by. -/
def Went (t : Int) (s : St) : Prop := s.over = true ∨ (t + s.tries ≤ s.bd ∧ 0 ≤ s.tries ∧ s.tries ≤ 100000 ∧ 0 ≤ maxI s.p.r 0 ∧ maxI s.p.r 0 ≤ 100000)
theorem went_judge {t : Int} {s : St} (h : Went t s) : Went t s.judge.1 ∨ s.over = true := by
  rcases h with h | ⟨h1, h2, h3, h4, h5⟩
  · exact .inr h
  rcases judge_cases s with ⟨hs, _⟩ | ⟨hf, u, v, hs, ho, hk, _, _, hj⟩
  · exact .inl (.inr ⟨by unfold St.bd at h1 ⊢; rw [hs.fixed, hs.p, hs.tries]; exact h1, by rw [hs.tries]; exact h2, by rw [hs.tries]; exact h3, by rw [hs.p]; exact h4, by rw [hs.p]; exact h5⟩)
  · left
    rw [hj]
    have e1 : (u.fix v).1.tries = maxI s.p.r 0 := by rw [← hs.p]; rfl
    have e2 : (u.fix v).1.p = s.p := hs.p
    refine .inr ⟨?_, by rw [e1]; exact h4, by rw [e1]; exact h5, by rw [e2]; exact h4, by rw [e2]; exact h5⟩
    unfold St.bd at h1 ⊢
    rw [hf] at h1
    rw [fix_fixed, e1, e2]
    simp only [Bool.false_eq_true, if_false, if_true] at h1 ⊢
    omega
theorem went_take {t : Int} {s : St} (h : Went t s) (m : Msg) : Went t (s.take m).1 := by
  unfold St.take
  split
  · exact h
  · rename_i ho
    split
    · have hg : Went t (s.got m) := h
      split
      · rcases went_judge hg with h' | h'
        · exact h'
        · exact absurd h' ho
      · exact hg
    · exact h
theorem went_tick {t : Int} {s : St} (h : Went t s) : Went (t + 1) s.tick.1 := by
  unfold St.tick
  split
  · rename_i ho; exact .inl ho
  rename_i ho
  split
  · rename_i hc
    cases hov : s.judge.1.over with
    | true => exact .inl hov
    | false =>
      rw [hov, Bool.false_or] at hc
      rcases h with h | ⟨h1, h2, h3, h4, h5⟩
      · exact absurd h ho
      rcases judge_cases s with ⟨hs, _⟩ | ⟨hf, u, v, hs, ho', hk, _, _, hj⟩
      · rw [hs.fixed] at hc; simp at hc
      · rw [hj]
        have e1 : (u.fix v).1.tries = maxI s.p.r 0 := by rw [← hs.p]; rfl
        have e2 : (u.fix v).1.p = s.p := hs.p
        refine .inr ⟨?_, by rw [e1]; exact h4, by rw [e1]; exact h5, by rw [e2]; exact h4, by rw [e2]; exact h5⟩
        unfold St.bd at h1 ⊢
        rw [hf] at h1
        rw [fix_fixed, e1, e2]
        simp only [Bool.false_eq_true, if_false, if_true] at h1 ⊢
        omega
  · rename_i hc
    rcases went_judge h with h' | h'
    · rcases h' with h' | ⟨h1, h2, h3, h4, h5⟩
      · rw [h'] at hc; simp at hc
      unfold St.late
      split
      · exact .inl rfl
      · rename_i ht
        rw [wrap64 (n := s.judge.1.tries - 1) (by omega) (by omega)]
        refine .inr ⟨?_, by simp only; omega, by simp only; omega, h4, h5⟩
        have : St.bd { s.judge.1 with tries := s.judge.1.tries - 1 } = s.judge.1.bd := rfl
        rw [this]
        simp only
        omega
    · exact absurd h' ho
end Go.Agr
namespace Go.Vc
open Go.Vx Go
def planAll.cx : Cx := ⟨[1], [], [], []⟩
def planAll1.cx : Cx := ⟨[], [(3, [2, 6], [])], [], []⟩
def planOfL.cx : Cx := ⟨[], [], [], []⟩
theorem planAll.vc (n1 : Int) (n2 : Int) (n3 : Int) (n4 : Int) (n5 : Int) (n6 : Int) (H : PHeap) (Q : Value → PHeap → Prop)
 (h : ∀ (k7 : Nat),
 H k7 = none →
 ∃ n8 n9 n10 n11 n12 n13,
 Reads (H.upd k7 (Obj.cells #[Value.int IntKind.i64 n1, Value.int IntKind.i64 n2, Value.int IntKind.i64 n3, Value.int IntKind.i64 n4, Value.int IntKind.i64 n5, Value.int IntKind.i64 n6] 23))
 (at0 k7)
 [Value.int IntKind.i64 n8, Value.int IntKind.i64 n9, Value.int IntKind.i64 n10, Value.int IntKind.i64 n11, Value.int IntKind.i64 n12, Value.int IntKind.i64 n13] ∧
 Triple Proofs.Tryz.prog 119
 #[Value.agg #[Value.int IntKind.i64 n8, Value.int IntKind.i64 n9, Value.int IntKind.i64 n10, Value.int IntKind.i64 n11, Value.int IntKind.i64 n12, Value.int IntKind.i64 n13],
 Value.func (Fn.func 120) #[] #[Value.pointer (at0 k7)]]
 (H.upd k7 (Obj.cells #[Value.int IntKind.i64 n1, Value.int IntKind.i64 n2, Value.int IntKind.i64 n3, Value.int IntKind.i64 n4, Value.int IntKind.i64 n5, Value.int IntKind.i64 n6] 23))
 fun v14 H15 => ∃ a16 k17 k18, v14 = Value.slice a16 k17 k18 ∧ Q (Value.slice a16 k17 k18) H15) :
 Triple Go.Proofs.Tryz.prog 85 ([Value.agg #[Value.int IntKind.i64 n1, Value.int IntKind.i64 n2, Value.int IntKind.i64 n3, Value.int IntKind.i64 n4, Value.int IntKind.i64 n5, Value.int IntKind.i64 n6]]).toArray H Q :=
 Triple.of_vc planAll.cx (by kernel_rfl) h
theorem planAll1.vc (a1 : Option Addr) (H : PHeap) (Q : Value → PHeap → Prop)
 (h : Ob (a1 ≠ none) ∧
 ∃ n2,
 Reads H (fldA a1 0) [Value.int IntKind.i64 n2] ∧
 ∃ (R3 : Rl) (M4 : Mu),
 R3 [Value.slice none 0 0, Value.int IntKind.i64 0] H ∧
 ∀ (a5 : Option Addr) (k6 k7 : Nat) (n8 : Int) (H9 : PHeap),
 R3 [Value.slice a5 k6 k7, Value.int IntKind.i64 n8] H9 →
 (decide (n8 < n2) = true →
 ∀ (k10 : Nat),
 H9 k10 = none →
 EvV Proofs.Tryz.prog (Builtin.append_ #[42, 42] 42 #[Value.slice a5 k6 k7, Value.slice (at0 k10) 1 1])
 (H9.upd k10 (Obj.cells #[Value.int IntKind.i64 (IntKind.i64.wrap (n8 + 1))] 3)) fun v11 H12 =>
 ∃ a13 k14 k15,
 v11 = Value.slice a13 k14 k15 ∧
 R3 [Value.slice a13 k14 k15, Value.int IntKind.i64 (IntKind.i64.wrap (n8 + 1))] H12 ∧
 Less (M4 [Value.slice a13 k14 k15, Value.int IntKind.i64 (IntKind.i64.wrap (n8 + 1))] H12) (M4 [Value.slice a5 k6 k7, Value.int IntKind.i64 n8] H9)) ∧
 (decide (n8 < n2) = false → Q (Value.slice a5 k6 k7) H9)) :
 Triple Go.Proofs.Tryz.prog 120 ([Value.pointer a1]).toArray H Q :=
 Triple.of_vc planAll1.cx (by kernel_rfl) h
theorem planOfL.vc (n1 : Int) (n2 : Int) (n3 : Int) (n4 : Int) (n5 : Int) (n6 : Int) (v7 : Value) (H : PHeap) (Q : Value → PHeap → Prop)
 (h : Triple Proofs.Tryz.prog 19 #[Value.agg #[Value.int IntKind.i64 n1, Value.int IntKind.i64 n2, Value.int IntKind.i64 n3, Value.int IntKind.i64 n4, Value.int IntKind.i64 n5, Value.int IntKind.i64 n6]] H
 fun v8 H9 =>
 ∃ b10,
 v8 = Value.bool b10 ∧
 ((!b10) = true → Q (Value.slice none 0 0) H9) ∧ ((!b10) = false → CallY Proofs.Tryz.prog v7 #[] H9 fun v11 H12 => ∃ a13 k14 k15, v11 = Value.slice a13 k14 k15 ∧ Q (Value.slice a13 k14 k15) H12)) :
 Triple Go.Proofs.Tryz.prog 119 ([Value.agg #[Value.int IntKind.i64 n1, Value.int IntKind.i64 n2, Value.int IntKind.i64 n3, Value.int IntKind.i64 n4, Value.int IntKind.i64 n5, Value.int IntKind.i64 n6], v7]).toArray H Q :=
 Triple.of_vc planOfL.cx (by kernel_rfl) h
end Go.Vc
