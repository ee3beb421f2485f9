/- The executor's use: closures that are called, texts and their order, and a proof that two places share. -/
import Derived.Test.YtllbdocjgdnofaaVxW
import Derived.Lib.Strings
namespace Go.Vx

/-! ### A function value -/
theorem CallY.fn {P : Program} {f : FuncId} {caps args : Array Value} {H : PHeap} {Q : Value → PHeap → Prop} (hg : goodF P f = true) (h : Triple P f (args ++ caps) H Q) : CallY P (.func (.func f) #[] caps) args H Q :=
  ⟨fun w hs => .inl ⟨f, args ++ caps, by simp [Deferred.ofValue, invoke, run_callFunc hg], h.out w hs⟩⟩
theorem CallV.fn {P : Program} {f : FuncId} {caps args : Array Value} {H : PHeap} {Q : Value → PHeap → Prop} (hg : goodF P f = true) (h : Triple P f (args ++ caps) H Q) : CallV P (.func (.func f) #[] caps) args H Q :=
  ⟨fun w hs => ⟨f, args ++ caps, by simp [Deferred.ofValue, invoke, run_callFunc hg], h.out w hs⟩⟩

/-! ### Texts -/
theorem toListB (s : ByteArray) : s.toList = s.data.toList := Lib.toList_data s
theorem eqS_iff {a b : ByteArray} : eqS a b = true ↔ a = b := by
  unfold eqS
  rw [toListB, toListB, beq_iff_eq]
  constructor
  · intro h
    cases a; cases b
    simp at h
    rw [h]
  · rintro rfl; rfl
theorem eqS_false {a b : ByteArray} : eqS a b = false ↔ a ≠ b := by
  rw [← Bool.not_eq_true, eqS_iff]
theorem bytesLess_nil : ∀ b : List UInt8, Op.bytesLess b [] = false
  | [] => rfl
  | _ :: _ => rfl
theorem bytesLess_irrefl : ∀ a : List UInt8, Op.bytesLess a a = false
  | [] => rfl
  | a :: x => by simp [Op.bytesLess, bytesLess_irrefl x]
theorem bytesLess_trans : ∀ {a b c : List UInt8}, Op.bytesLess a b = true → Op.bytesLess b c = true → Op.bytesLess a c = true
  | [], _, [], _, h => by rw [bytesLess_nil] at h; cases h
  | [], _, _ :: _, _, _ => rfl
  | _ :: _, [], _, h, _ => by rw [bytesLess_nil] at h; cases h
  | _ :: _, _ :: _, [], _, h => by rw [bytesLess_nil] at h; cases h
  | a :: x, b :: y, c :: z, h1, h2 => by
    simp only [Op.bytesLess, Bool.or_eq_true, Bool.and_eq_true, decide_eq_true_eq, beq_iff_eq] at *
    rcases h1 with h1 | ⟨rfl, h1⟩
    · rcases h2 with h2 | ⟨rfl, h2⟩
      · exact .inl (UInt8.lt_trans h1 h2)
      · exact .inl h1
    · rcases h2 with h2 | ⟨rfl, h2⟩
      · exact .inl h2
      · exact .inr ⟨rfl, bytesLess_trans h1 h2⟩
theorem bytesLess_total : ∀ {a b : List UInt8}, a ≠ b → Op.bytesLess a b = true ∨ Op.bytesLess b a = true
  | [], [], h => absurd rfl h
  | [], _ :: _, _ => .inl rfl
  | _ :: _, [], _ => .inr rfl
  | a :: x, b :: y, h => by
    simp only [Op.bytesLess, Bool.or_eq_true, Bool.and_eq_true, decide_eq_true_eq, beq_iff_eq]
    by_cases e : a = b
    · subst e
      rcases bytesLess_total (a := x) (b := y) (fun e => h (by rw [e])) with h1 | h1
      · exact .inl (.inr ⟨rfl, h1⟩)
      · exact .inr (.inr ⟨rfl, h1⟩)
    · rcases Nat.lt_or_gt_of_ne (fun e1 => e (UInt8.toNat.inj e1)) with h1 | h1
      · exact .inl (.inl h1)
      · exact .inr (.inl h1)
theorem lessS_irrefl (a : ByteArray) : lessS a a = false := bytesLess_irrefl _
theorem lessS_trans {a b c : ByteArray} (h1 : lessS a b = true) (h2 : lessS b c = true) : lessS a c = true := bytesLess_trans h1 h2
theorem lessS_total {a b : ByteArray} (h : a ≠ b) : lessS a b = true ∨ lessS b a = true := bytesLess_total (by
  rw [toListB, toListB]
  intro e
  exact h (by cases a; cases b; simp at e; rw [e]))
theorem lessS_asymm {a b : ByteArray} (h : lessS a b = true) : lessS b a = false := by
  cases h2 : lessS b a with
  | false => rfl
  | true => have := lessS_trans h h2; rw [lessS_irrefl] at this; cases this
/-- The order, as a loop over the bytes finds it. -/
theorem bytesLess_at : ∀ (a b : List UInt8) (i : Nat), a.take i = b.take i → i ≤ a.length → i ≤ b.length →
    Op.bytesLess a b = Op.bytesLess (a.drop i) (b.drop i)
  | a, b, 0, _, _, _ => rfl
  | x :: a, y :: b, i + 1, h, h1, h2 => by
    simp at h h1 h2
    simp only [Op.bytesLess, List.drop_succ_cons, h.1, UInt8.lt_irrefl, decide_false, Bool.false_or, BEq.rfl, Bool.true_and]
    exact bytesLess_at a b i h.2 h1 h2
  | [], _, _ + 1, _, h, _ => by simp at h
  | _ :: _, [], _ + 1, _, _, h => by simp at h
theorem size_toList (s : ByteArray) : s.toList.length = s.size := by rw [toListB, Array.length_toList]; rfl
theorem byteAt_get {s : ByteArray} {i : Nat} (h : i < s.size) : ∃ c, s.toList[i]? = some c ∧ byteAt s i = c.toNat := by
  have h2 : i < s.data.size := h
  refine ⟨s.data[i], by rw [toListB]; simp [h2], ?_⟩
  unfold byteAt
  rw [Int.toNat_natCast, Array.getElem?_eq_getElem h2]
  rfl
/-- Halfway. -/
theorem mid_of {i j : Int} (h0 : 0 ≤ i) (h1 : i ≤ j) (h2 : j ≤ 1000000) : IntKind.i64.wrap (shrI IntKind.u64 (IntKind.u64.wrap (IntKind.i64.wrap (i + j))) 1) = (i + j) / 2 := by
  rw [wrap64 (n := i + j) (by omega) (by omega)]
  have e1 : IntKind.u64.wrap (i + j) = i + j := by
    simp [IntKind.wrap, IntKind.bits, IntKind.signed]
    omega
  rw [e1]
  have e2 : shrI IntKind.u64 (i + j) 1 = (i + j) / 2 := by
    unfold shrI
    rw [Int.fdiv_eq_ediv_of_nonneg _ (by simp [IntKind.bits])]
    simp [IntKind.bits]
  rw [e2]
  exact wrap64 (by omega) (by omega)
/-- One proof for two places. -/
theorem twice {α β γ : Type} {T : α → β → γ → Prop} {C : α → β → γ → Prop} {G : Prop} (use : (∀ a b c, C a b c → T a b c) → G) (key : ∀ a b c, C a b c → T a b c) : G := use key

/-! ### Parts of slices -/
theorem RdL.take {α : Type} {H : PHeap} {E : α → List Value} {sz : Nat} {oa : Option Addr} {n : Nat} {l : List α} (h : RdL H E sz oa n l) {i : Nat} (hi : i ≤ n) : RdL H E sz oa i (l.take i) :=
  ⟨by rw [List.length_take, h.len]; omega, fun e => by have := h.pos e; omega, fun j y hy => h.get j y (by
    rw [List.getElem?_take] at hy
    split at hy
    · exact hy
    · cases hy)⟩
theorem RdL.drop {α : Type} {H : PHeap} {E : α → List Value} {sz : Nat} {oa : Option Addr} {n : Nat} {l : List α} (h : RdL H E sz oa n l) {i c : Nat} (hi : i ≤ n) (hc : n ≤ c) : RdL H E sz (slA oa i c sz) (n - i) (l.drop i) := by
  refine ⟨by rw [List.length_drop, h.len], fun e => ?_, fun j y hy => ?_⟩
  · cases oa with
    | none => have := h.pos rfl; omega
    | some a => unfold slA at e; split at e <;> simp at e
  · rw [List.getElem?_drop] at hy
    have hl := (List.getElem?_eq_some_iff.1 hy).1
    rw [h.len] at hl
    have := h.get (i + j) y hy
    rw [slA_pos (show (i : Int) ≠ c by omega)]
    cases oa with
    | none => have := h.pos rfl; omega
    | some a =>
      simp only [elemA, Option.map_some, Int.toNat_natCast, Addr.add_add] at this ⊢
      rwa [← Nat.add_mul]
/-- An empty slice that is not nil, in a block of its own. -/
theorem Owns.empty (H : PHeap) (k : Nat) (e : TypeId) (sz : Nat) : Owns (H.upd k (.cells #[] e (0, 0))) e sz (at0 k) 0 0 [] :=
  ⟨by simp, .inr ⟨k, #[], rfl, upd_eq .., Nat.le_refl _, Nat.zero_le _, by simp, by simp⟩⟩
theorem off_at0 {H : PHeap} {k : Nat} (h : H k = none) : Off H (at0 k) := fun a ha => by cases ha; exact h
theorem Owns.le {H : PHeap} {e : TypeId} {sz : Nat} {oa : Option Addr} {n c : Nat} {xs : List Value} (h : Owns H e sz oa n c xs) : n ≤ c := by
  rcases h.row with ⟨_, h1, h2⟩ | ⟨_, _, _, _, h1, _⟩ <;> omega
end Go.Vx
