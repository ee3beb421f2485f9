/- What comes of a possibility when one effect comes: plain words, and the contract of the program's iterator. -/
import Derived.Test.YtlhnepjidbofnaaDoorMdlT
import Derived.Test.YtlhnepjidbofnaaDoorVcMdlS
namespace Go.Vx
/-- slices.Clone, as the executor has it. -/
theorem clone_tr {P : Program} {t ty e : TypeId} {sz bytes : Nat} (T : ElemT P t e sz bytes) {α : Type} {E : α → List Value} (hE : ∀ x, (E x).length = sz) (h1 : ∀ x, ∀ u ∈ E x, u.oneCell' = true) {f : FuncId} {H : PHeap} {oa : Option Addr} {n c : Nat} {l : List α}
    (vc : ∀ (H : PHeap) (Q : Value → PHeap → Prop), ((oa.isNone = true → Q (.slice none 0 0) H) ∧ (oa.isNone = false → ∀ k4, H k4 = none → EvV P (Builtin.append_ #[t, t] ty #[.slice (at0 k4) 0 0, .slice oa n c]) (H.upd k4 (.cells #[] e (0, 0))) fun v H6 => ∃ a k m, v = .slice a k m ∧ Q (.slice a k m) H6)) → Triple P f #[.slice oa n c] H Q)
    (hl : RdL H E sz oa n l) (h63 : n ≤ maxLen) (hby : n * bytes ≤ 140737488355328) :
    Triple P f #[.slice oa n c] H fun v H' => ∃ b k, v = .slice b n k ∧ OwnL H' e E sz b n k l ∧ Sub H H' ∧ Off H b := by
  refine vc H _ ⟨fun h => ?_, fun h k4 hk4 => ?_⟩
  · have ho : oa = none := by simpa using h
    have hn0 := hl.pos ho
    have hl0 : l = [] := List.eq_nil_of_length_eq_zero (by rw [hl.len, hn0])
    subst hl0 hn0
    exact ⟨none, 0, rfl, Owns.nil _ _ sz, Sub.refl H, Off.none _⟩
  · have hsk := Sub.upd (.cells #[] e (0, 0)) hk4
    have hoffk : Off H (at0 k4) := fun a ha => by cases ha; exact hk4
    refine append_rd T (E := E) (sz := sz) (l := []) (l2 := l) hE ⟨by simp, .inr ⟨k4, #[], rfl, upd_eq .., Nat.le_refl _, Nat.zero_le _, by simp, by simp⟩⟩ (hl.mono hsk) h1 (by omega) (by rw [Nat.zero_add]; exact hby) ?_
    intro b k H2 how hf hfr
    rw [List.nil_append] at how
    rw [Nat.zero_add] at how ⊢
    exact ⟨b, n, k, rfl, b, k, rfl, how, hf.sub hsk hoffk, hfr.off hsk hoffk⟩
/-- A heap's rows of cells alone. -/
def onlyCells (H : PHeap) : PHeap := fun k => match H k with
  | some (.cells c e r) => some (.cells c e r)
  | _ => none
theorem only_cells (H : PHeap) : CellsOnly (onlyCells H) := ⟨fun k o h => by
  unfold onlyCells at h
  split at h
  · cases h; exact ⟨_, _, _, rfl⟩
  · cases h⟩
theorem only_sub (H : PHeap) : Sub (onlyCells H) H := ⟨fun k o h => by
  unfold onlyCells at h
  split at h
  · rename_i c e r hk; rw [hk]; exact h
  · cases h⟩
theorem hcell_only (H : PHeap) (a : Addr) : hcell (onlyCells H) a = hcell H a := by
  unfold hcell onlyCells
  cases H a.block with
  | none => rfl
  | some o => cases o <;> rfl
theorem RdL.only {α : Type} {H : PHeap} {E : α → List Value} {sz : Nat} {oa : Option Addr} {n : Nat} {l : List α} (h : RdL H E sz oa n l) : RdL (onlyCells H) E sz oa n l :=
  ⟨h.len, h.pos, fun i x hx => by
    obtain ⟨a, ha, hr⟩ := (h.get i x hx).out
    exact ⟨a, ha, fun j v hv => by rw [hcell_only]; exact hr j v hv⟩⟩
end Go.Vx
namespace Go.Mdl
open Go.Vx Go.Vc Go.Proofs

theorem fOne (x : Fl) : ∀ u ∈ fE x, u.oneCell' = true := fun u hu => by simp [fE] at hu; rcases hu with rfl | rfl <;> rfl
theorem tFl : ElemT Tryd.prog 60 71 2 24 := .of (by kernel_rfl)
def f0 : Fl := (false, ⟨#[]⟩)
theorem zFl : ∀ i z, Tryd.prog.info? 71 = some i → i.zero = some z → z.cells.toList = fE f0 := fun i z hi hz => by
  have h0 : (Tryd.prog.info? 71).bind (·.zero) = some (.agg #[.bool false, .string ⟨#[]⟩]) := by kernel_rfl
  rw [hi] at h0
  simp [hz] at h0
  subst h0
  rfl
theorem flatF (l : List Fl) : ∀ u ∈ l.flatMap fE, u.oneCell' = true := fun u hu => by
  obtain ⟨x, _, hx⟩ := List.mem_flatMap.1 hu
  exact fOne x u hx
theorem cloneF_ok {H : PHeap} {oa : Option Addr} {n c : Nat} {l : List Fl} (hl : RdL H fE 2 oa n l) (hn : n ≤ 1000) :
    Triple Tryd.prog 28 #[.slice oa n c] H fun v H' => ∃ b k, v = .slice b n k ∧ OwnL H' 71 fE 2 b n k l ∧ Sub H H' ∧ Off H b :=
  clone_tr tFl fLen fOne (sCloneF.vc oa n c) hl (by simp [maxLen]; omega) (by omega)
theorem cut_two {α : Type} {p r z s : List α} {m : Nat} (h : p.length = m) : ((p ++ r).take m ++ z ++ s).take m = p := by
  rw [List.take_left' h, List.append_assoc, List.take_left' h]
theorem delete_ok {H : PHeap} {oa : Option Addr} {n c i : Nat} {l : List Fl} (how : OwnL H 71 fE 2 oa n c l) (hi : i < n) (hn : n ≤ 1000) :
    Triple Tryd.prog 48 #[.slice oa n c, .int .i64 i, .int .i64 (i + 1)] H fun v H' => v = .slice oa (n - 1) c ∧ OwnL H' 71 fE 2 oa (n - 1) c (l.take i ++ l.drop (i + 1)) ∧ Vx.Frame oa H H' := by
  have hrd := how.rd (E := fE) (sz := 2) (by omega) fLen
  have hll := hrd.len
  have ho : oa ≠ none := hrd.ne (i := i) (by omega) (by omega)
  have hcap : n ≤ c := by
    rcases how.row with ⟨_, h1, h2⟩ | ⟨_, _, _, _, h1, _⟩ <;> omega
  obtain ⟨a0, rfl⟩ : ∃ a0, oa = some a0 := by
    cases oa with
    | none => exact absurd rfl ho
    | some a0 => exact ⟨a0, rfl⟩
  have ea0 : a0 = ⟨a0.block, 0, none⟩ := by
    rcases how.row with ⟨e, _⟩ | ⟨g1, cur, e, _⟩
    · cases e
    · cases e; rfl
  have eA : ∀ p : Nat, elemA (some a0) (p : Int) 2 = some ⟨a0.block, p * 2, none⟩ := fun p => by
    conv => lhs; rw [ea0]
    simp [elemA, Addr.add_lit]
  have eB : ∀ p : Nat, (⟨a0.block, p * 2, none⟩ : Addr) = a0.add (p * 2) := fun p => by
    conv => rhs; rw [ea0]
    simp [Addr.add_lit]
  refine sDelF.vc (some a0) n c i (i + 1) H _ ⟨⟨by omega, by omega, by omega, by omega⟩, fun h => ?_, fun _ => ?_⟩
  · simp at h; omega
  have hds : ((l.drop (i + 1)).flatMap fE).length = (n - (i + 1)) * 2 := by rw [length_flatMap fLen, List.length_drop, hll]
  obtain ⟨H1, hw1, g1, hf1⟩ := how.put (p := i) (ys := (l.drop (i + 1)).flatMap fE) (by rw [hds]; omega) ho
  obtain ⟨H2, hw2, g2, hf2⟩ := g1.put (p := n - 1) (ys := fE f0) (by rw [fLen]; omega) ho
  rw [eA] at hw1 hw2
  rw [show ((i : Int) + 1) = ((i + 1 : Nat) : Int) by omega]
  simp only [slA_zero, Int.toNat_natCast, Int.toNat_zero, Nat.sub_zero]
  refine ⟨H, Sub.refl _, ⟨by omega, by omega, by omega⟩, ⟨by omega, by omega, by omega⟩, ?_⟩
  refine append_room tFl (cs := (l.drop (i + 1)).flatMap fE) hds (by omega) ?_ ?_ (.inr (by rw [← eB]; exact hw1)) (flatF _) ?_
  · intro b hb j v hv
    have hjl := (List.getElem?_eq_some_iff.1 hv).1
    rw [hds] at hjl
    rw [slA_pos (show ((i + 1 : Nat) : Int) ≠ c by omega), eA] at hb
    cases hb
    rw [eB, hcell_add]
    refine hrd.flat fLen _ _ ?_
    have : l.flatMap fE = (l.take (i + 1)).flatMap fE ++ (l.drop (i + 1)).flatMap fE := by rw [← List.flatMap_append, List.take_append_drop]
    rw [this, List.getElem?_append_right (by rw [length_flatMap fLen, List.length_take]; omega), length_flatMap fLen, List.length_take, show (i + 1) * 2 + j - min (i + 1) l.length * 2 = j by rw [Nat.min_eq_left (by omega)]; omega]
    exact hv
  · intro e
    by_cases h : i + 1 = c
    · omega
    · rw [slA_pos (show ((i + 1 : Nat) : Int) ≠ c by omega), eA] at e
      cases e
  have e1 : i + (n - (i + 1)) = n - 1 := by omega
  rw [e1]
  refine ⟨_, _, _, rfl, ⟨by omega, by omega, by omega⟩, ?_⟩
  rw [slA_pos (show ((n - 1 : Nat) : Int) ≠ c by omega), eA]
  have e2 : n - (n - 1) = 1 := by omega
  rw [e2]
  refine clear_rw tFl (E := fE) (Z := f0) zFl (fOne f0) (fun e => by cases e) (.inr (by simpa using hw2)) ?_
  refine ⟨rfl, ?_, fun q o hq hn' => hf2 q o (hf1 q o hq hn') hn'⟩
  have g3 := g2.cut (m := n - 1) (by omega)
  have hfl : (l.flatMap fE).length = n * 2 := how.len
  have e3 : (l.flatMap fE).take (i * 2) = (l.take i).flatMap fE := by
    conv => lhs; rw [← List.take_append_drop i l, List.flatMap_append]
    rw [List.take_left' (by rw [length_flatMap fLen, List.length_take]; omega)]
  rw [e3] at g3
  show Owns H2 _ _ _ _ _ ((l.take i ++ l.drop (i + 1)).flatMap fE)
  rw [List.flatMap_append]
  have hti : ((l.take i).flatMap fE).length = i * 2 := by rw [length_flatMap fLen, List.length_take]; omega
  have e4 : ((l.take i).flatMap fE ++ (l.drop (i + 1)).flatMap fE).length = (n - 1) * 2 := by rw [List.length_append, hti, hds]; omega
  rw [cut_two e4] at g3
  exact g3

/-! ### What comes of a possibility -/
theorem ChR.only {H : PHeap} {v : Cv} {x : Ch} (h : ChR H v x) : ChR (onlyCells H) v x := h.keep fun b c r hk => by unfold onlyCells; rw [hk]
def gN (x : Ch) (i : Nat) : Option Ch := match x.fl[i]? with
  | some f => if f.1 = x.p then none else some ⟨f.1, f.2, x.fl.eraseIdx i⟩
  | none => none
def nextP (x : Ch) (i : Nat) : List Ch := (List.range i).filterMap (gN x)
def nextL (x : Ch) : List Ch := nextP x x.fl.length
theorem nextP_succ (x : Ch) (i : Nat) : nextP x (i + 1) = nextP x i ++ (gN x i).toList := by
  unfold nextP
  rw [List.range_succ, List.filterMap_append]
  cases h : gN x i <;> simp [h]
theorem nextP_pre (x : Ch) (i : Nat) : ∀ j, ∃ r, nextP x (i + j) = nextP x i ++ r
  | 0 => ⟨[], by simp⟩
  | j + 1 => by
    obtain ⟨r, h⟩ := nextP_pre x i j
    exact ⟨r ++ (gN x (i + j)).toList, by rw [← Nat.add_assoc, nextP_succ, h, List.append_assoc]⟩
theorem nextL_at {x z : Ch} {i : Nat} (hi : i < x.fl.length) (h : gN x i = some z) : (nextL x)[(nextP x i).length]? = some z := by
  obtain ⟨r, hr⟩ := nextP_pre x (i + 1) (x.fl.length - (i + 1))
  unfold nextL
  rw [show x.fl.length = i + 1 + (x.fl.length - (i + 1)) by omega, hr, nextP_succ, h]
  simp
theorem nextL_len (x : Ch) : (nextL x).length ≤ x.fl.length := by
  have := List.length_filterMap_le (gN x) (List.range x.fl.length)
  simpa [nextL, nextP] using this
abbrev nextE (x : Ch) : Nat → List Value → PHeap → Prop := fun i l F => ∃ u z, (nextL x)[i]? = some z ∧ l = [.agg (cE u).toArray] ∧ ChR F u z
theorem iter_ok {H : PHeap} {k : Nat} {v : Cv} {x : Ch} (hb : Bx H k 62 (cE v)) (h : ChR H v x) (hx : x.fl.length ≤ 1000) :
    IterOk Tryd.prog (.func (.func 47) #[] #[.pointer (at0 k)]) H (nextL x).length (nextE x) := by
  refine ⟨fun y J X H0 hJ0 hJs hJg hbody => CallV.fn (by kernel_rfl) ?_⟩
  obtain ⟨p, d, a, n, c⟩ := v
  obtain ⟨rfl, rfl, hfl, _⟩ := h
  simp only at hb hfl
  have hn := hfl.len
  have hne : Ob (at0 k ≠ none) := ⟨by simp [at0]⟩
  have hb0 := hb.sub (hJs 0 H0 hJ0)
  refine mNext1.vc y (at0 k) H0 _ ⟨hne, a, n, c, hb0.fld (i := 2) rfl, fun t H' => match t with | [.int _ i] => 0 ≤ i ∧ i ≤ n ∧ J (nextP x i.toNat).length H' | _ => False, fun t _ => match t with | [.int _ i] => (n - i).toNat | _ => 0, ⟨by omega, by omega, by simpa [nextP] using hJ0⟩, ?_⟩
  rintro i H1 ⟨i0, i1, hJ1⟩
  obtain ⟨i, rfl⟩ : ∃ j : Nat, i = j := ⟨i.toNat, by omega⟩
  rw [Int.toNat_natCast] at hJ1
  have hs1 := hJs _ _ hJ1
  have hfl1 := hfl.mono hs1
  have hb1 := hb.sub hs1
  refine ⟨fun hi => ?_, fun hi => ?_⟩
  · have hi' : i < n := by simpa using hi
    obtain ⟨f, hf, hfr⟩ := hfl1.ex (i := (i : Int)) (by omega) (by omega)
    rw [Int.toNat_natCast] at hf
    have less : Less ((n : Int) - ((i : Int) + 1)).toNat ((n : Int) - i).toNat := ⟨by omega⟩
    have ew : IntKind.i64.wrap ((i : Int) + 1) = (i : Int) + 1 := wrap64 (by omega) (by omega)
    have ei : ((i : Int) + 1).toNat = i + 1 := by omega
    rw [ew]
    refine ⟨hfl1.ob (by omega) (by omega), f.1, f.2, hfr, hne, x.p, hb1.fld (i := 0) rfl, fun e => ?_, fun e => ?_⟩
    · have e' : f.1 = x.p := by simpa using e
      refine ⟨⟨by omega, by omega, ?_⟩, less⟩
      rw [ei, nextP_succ]
      simpa [gN, hf, e'] using hJ1
    · have e' : f.1 ≠ x.p := by simpa using e
      have hg : gN x i = some ⟨f.1, f.2, x.fl.eraseIdx i⟩ := by simp [gN, hf, e']
      refine ⟨hne, a, n, c, hb1.fld (i := 2) rfl, (cloneF_ok hfl1 (by omega)).mono ?_⟩
      rintro _ H2 ⟨b, m, rfl, ho2, hs2, hof2⟩
      refine ⟨b, n, m, rfl, (delete_ok ho2 hi' (by omega)).mono ?_⟩
      rintro _ H3 ⟨rfl, ho3, hf3⟩
      have hs3 := hf3.sub hs2 hof2
      have hlt : i < x.fl.length := by omega
      have hat := nextL_at hlt hg
      have hiN := (List.getElem?_eq_some_iff.1 hat).1
      have hz : ChR H3 ⟨f.1, f.2, b, n - 1, m⟩ ⟨f.1, f.2, x.fl.eraseIdx i⟩ := ⟨rfl, rfl, by
        have := ho3.rd (E := fE) (sz := 2) (by omega) fLen
        rwa [List.eraseIdx_eq_take_drop_succ], fun a' ha => by
        simp only at ha
        rcases ho3.row with ⟨e1, _⟩ | ⟨g, cur, e1, hg, _⟩
        · rw [e1] at ha; cases ha
        · rw [e1] at ha; cases ha; exact ⟨cur, _, hg⟩⟩
      refine ⟨b, n - 1, m, rfl, ?_⟩
      have hcall := hbody _ [.agg (cE ⟨f.1, f.2, b, n - 1, m⟩).toArray] (onlyCells H3) H3 hiN (only_cells _) (only_sub _) ⟨_, _, hat, rfl, hz.only⟩ (hJg _ _ _ hJ1 hs3)
      refine ⟨fun w hs => ?_⟩
      have hnext : nextP x (i + 1) = nextP x i ++ [⟨f.1, f.2, x.fl.eraseIdx i⟩] := by rw [nextP_succ, hg]; rfl
      have fin : ∀ (v : Value) (H'' : PHeap), (v = .bool true ∧ J ((nextP x i).length + 1) H'') ∨ (v = .bool false ∧ X H'') →
          ∃ b28, v = .bool b28 ∧ ((!b28) = true → (J (nextL x).length H'' ∨ X H'')) ∧ ((!b28) = false → (0 ≤ (i : Int) + 1 ∧ (i : Int) + 1 ≤ n ∧ J (nextP x ((i : Int) + 1).toNat).length H'') ∧ Less ((n : Int) - ((i : Int) + 1)).toNat ((n : Int) - i).toNat) := by
        rintro v H'' (⟨rfl, hJ'⟩ | ⟨rfl, hX⟩)
        · exact ⟨true, rfl, (fun e => by cases e), fun _ => ⟨⟨by omega, by omega, by rw [ei, hnext]; simpa using hJ'⟩, less⟩⟩
        · exact ⟨false, rfl, fun _ => .inr hX, fun e => by cases e⟩
      rcases hcall.out w hs with ⟨g, xs, h1, h2⟩ | ⟨l, g, tmps, ag, bd, h1, h2⟩
      · exact .inl ⟨g, xs, h1, h2.mono fun e w' ⟨v, H'', q1, q2, q3⟩ => ⟨v, H'', q1, q2, fin v H'' q3⟩⟩
      · exact .inr ⟨l, g, tmps, ag, bd, h1, h2.mono fun e w' ⟨v, H'', q1, q2, q3⟩ => ⟨v, H'', q1, q2, fin v H'' q3⟩⟩
  · have hi' : ¬ i < n := by simpa using hi
    have : i = x.fl.length := by omega
    subst this
    exact .inl hJ1
end Go.Mdl
