/- Two maps side by side: an event is taken by one, and leaves the other. -/
import Derived.Test.YtlhnepjidbofnaaDoorMdlU5
namespace Go.Mdl
open Go.Vx Go.Vc Go.Proofs Go.Txt Go.Lab

theorem ext_take (acc : List EvX) (e : EvX) : (acc ++ [e]).take acc.length = acc := List.take_left' rfl
theorem ops_ext (acc : List EvX) (e : EvX) : opsAt (acc ++ [e]) acc.length = opsAt acc acc.length := by
  have := opsAt_take (l := acc ++ [e]) (i := acc.length) (Nat.le_refl _)
  rw [ext_take] at this; exact this.symm
theorem RA_ext (acc : List EvX) (e : EvX) : RA (acc ++ [e]) acc.length = RA acc acc.length := by
  have := RA_take (l := acc ++ [e]) (i := acc.length) (Nat.le_refl _)
  rw [ext_take] at this; exact this.symm
theorem okR_ext {acc : List EvX} {e : EvX} : okR (acc ++ [e]) acc.length ↔ okR acc acc.length := by
  have := okAt_take (l := acc ++ [e]) (i := acc.length) (Nat.le_refl _)
  rw [ext_take] at this
  unfold okR
  rw [RA_ext, this]
theorem RunK.ext {F H : PHeap} {m : Nat} {acc : List EvX} {e : EvX} : RunK F H m (acc ++ [e]) acc.length ↔ RunK F H m acc acc.length := by
  constructor
  · rintro ⟨sl, h⟩; rw [ops_ext, RA_ext] at h; exact ⟨sl, h⟩
  · rintro ⟨sl, h⟩; rw [← ops_ext acc e, ← RA_ext acc e] at h; exact ⟨sl, h⟩
theorem SmallE.sub {l k : List EvX} (h : SmallE l) (hs : k.Sublist l) : SmallE k :=
  ⟨fun e he => h.d e (hs.subset he), Nat.le_trans hs.length_le h.len, Nat.le_trans hs.countP_le h.fl⟩
/-- Two maps, each in a part of its own. -/
structure Pr (F H : PHeap) (m n : Nat) (la lb : List EvX) : Prop where
  out : ∃ A B, Sub A H ∧ Sub B H ∧ RunK F A m la la.length ∧ RunK F B n lb lb.length ∧ ∀ q o, A q = some o → F q = none → B q = none
theorem Pr.symm {F H : PHeap} {m n : Nat} {la lb : List EvX} (h : Pr F H m n la lb) : Pr F H n m lb la := by
  obtain ⟨A, B, h1, h2, h3, h4, h5⟩ := h.out
  refine ⟨B, A, h2, h1, h4, h3, fun q o hq hf => ?_⟩
  cases ha : A q with
  | none => rfl
  | some o' => rw [h5 q o' ha hf] at hq; cases hq
theorem Pr.mono {F H H' : PHeap} {m n : Nat} {la lb : List EvX} (h : Pr F H m n la lb) (hs : Sub H H') : Pr F H' m n la lb := by
  obtain ⟨A, B, h1, h2, h3, h4, h5⟩ := h.out
  exact ⟨A, B, h1.trans hs, h2.trans hs, h3, h4, h5⟩
theorem Pr.sub {F H : PHeap} {m n : Nat} {la lb : List EvX} (h : Pr F H m n la lb) : Sub F H := by
  obtain ⟨A, B, h1, h2, ⟨sl, h3⟩, _⟩ := h.out
  exact h3.sub.trans h1
theorem Pr.left {F H : PHeap} {m n : Nat} {la lb : List EvX} (h : Pr F H m n la lb) : RunK F H m la la.length := by
  obtain ⟨A, B, h1, h2, h3, _⟩ := h.out
  exact h3.mono h1
theorem Pr.new {F : PHeap} {m n : Nat} (hm : F m = none) (hn : (F.upd m (.cells #[.slice none 0 0, .map none] 37 (0, 0))) n = none) :
    Pr F ((F.upd m (.cells #[.slice none 0 0, .map none] 37 (0, 0))).upd n (.cells #[.slice none 0 0, .map none] 37 (0, 0))) m n [] [] := by
  have hnm : n ≠ m := fun e => by rw [e, upd_eq] at hn; cases hn
  have hn0 : F n = none := by rw [Go.Vx.upd_ne _ _ hnm] at hn; exact hn
  refine ⟨F.upd m (.cells #[.slice none 0 0, .map none] 37 (0, 0)), F.upd n (.cells #[.slice none 0 0, .map none] 37 (0, 0)), Sub.upd _ hn, ⟨fun q o hq => ?_⟩, ⟨_, map_new (Sub.refl F) hm []⟩, ⟨_, map_new (Sub.refl F) hn0 []⟩, fun q o hq hf => ?_⟩
  · by_cases e : q = n
    · subst e; rw [upd_eq] at hq ⊢; exact hq
    · rw [Go.Vx.upd_ne _ _ e] at hq ⊢
      exact (Sub.upd _ hm).le _ _ hq
  · have e : q = m := by
      by_cases e : q = m
      · exact e
      · rw [Go.Vx.upd_ne _ _ e, hf] at hq; cases hq
    subst e
    rw [Go.Vx.upd_ne _ _ hnm.symm]; exact hf
theorem pr_take {T : Lib.PrintTabs} {F H : PHeap} {m n : Nat} {la lb : List EvX} {e : EvX} {ev : EvW} (hT : Tabs F T) (h : Pr F H m n la lb) (hS : SmallE (la ++ [e])) (hok : okR la la.length) (hev : EvR F ev e) :
    Triple Tryd.prog 6 #[.pointer (at0 m), .agg (evE ev).toArray] H fun v H' => ∃ b, v = .bool b ∧ (b = true ↔ okR (la ++ [e]) (la.length + 1)) ∧ Pr F H' m n (if b = true then la ++ [e] else la) lb := by
  obtain ⟨A, B, h1, h2, h3, h4, h5⟩ := h.out
  refine ((take_at hT hS (RunK.ext.2 h3) (okR_ext.2 hok) (by rw [List.getElem?_append_right (Nat.le_refl _)]; simp) hev).frame h1).mono ?_
  rintro _ H' ⟨G', ⟨b, rfl, hb, hR⟩, hs, hk⟩
  have hFG : Sub F G' := by obtain ⟨sl, hh⟩ := hR.out; exact hh.sub
  have hFB : Sub F B := by obtain ⟨sl, hh⟩ := h4.out; exact hh.sub
  refine ⟨b, rfl, hb, ⟨G', B, hs, ⟨fun q o hq => ?_⟩, ?_, h4, fun q o hq hf => ?_⟩⟩
  · cases hf : F q with
    | some o' =>
      have e1 := hFB.le _ _ hf
      rw [e1] at hq; cases hq
      exact hs.le _ _ (hFG.le _ _ hf)
    | none =>
      have ha : A q = none := by
        cases ha : A q with
        | none => rfl
        | some o' => rw [h5 q o' ha hf] at hq; cases hq
      exact (hk q o (h2.le _ _ hq) ha).1
  · cases b with
    | true =>
      simp only [if_true] at hR ⊢
      rw [List.length_append]; exact hR
    | false => exact RunK.ext.1 hR
  · cases hb' : B q with
    | none => rfl
    | some o' =>
      have ha : A q = none := by
        cases ha : A q with
        | none => rfl
        | some o2 => rw [h5 q o2 ha hf] at hb'; cases hb'
      rw [(hk q o' (h2.le _ _ hb') ha).2] at hq; cases hq
/-- A copy of any length. -/
theorem copyBig {t e : TypeId} {sz bytes : Nat} (T : ElemT Tryd.prog t e sz bytes) {α : Type} {E : α → List Value} (hE : ∀ x, (E x).length = sz) (h1 : ∀ x, ∀ u ∈ E x, u.oneCell' = true) {H : PHeap} {a : Option Addr} {n c : Nat} {vs : List α} (hr : RdL H E sz a n vs) (hn : n ≤ maxLen) (hb : n * bytes ≤ 140737488355328) {k : Nat} (hk : H k = none) {K : Value → PHeap → Prop}
    (hK : ∀ a' c' H', OwnL H' e E sz a' n c' vs → Sub H H' → Off H a' → K (.slice a' n c') H') : EvV Tryd.prog (Builtin.append_ #[t, t] t #[.slice (at0 k) 0 0, .slice a n c]) (H.upd k (.cells #[] e (0, 0))) K := by
  have hsk := Sub.upd (.cells #[] e (0, 0)) hk
  have hoffk : Off H (at0 k) := fun a ha => by cases ha; exact hk
  refine append_rd T (E := E) (sz := sz) (l := []) (l2 := vs) hE ⟨by simp, .inr ⟨k, #[], rfl, upd_eq .., Nat.le_refl _, Nat.zero_le _, by simp, by simp⟩⟩ (hr.mono hsk) h1 (by omega) (by rw [Nat.zero_add]; exact hb) ?_
  intro b k' H2 how hf hfr
  rw [List.nil_append] at how
  rw [Nat.zero_add] at how ⊢
  exact hK b k' H2 how (hf.sub hsk hoffk) (hfr.off hsk hoffk)
theorem EvR0.small {H : PHeap} {v : EvW} {x : EvX} (h : EvR0 H v x) (hn : NearE x) : EvR H v x :=
  ⟨h.kind, h.id, h.op, h.an, by have := h.an.names.len; have := hn.nl; omega⟩
theorem EvL0.small {H : PHeap} {a : Option Addr} {n : Nat} {l : List EvX} (h : EvL0 H a n l) (hn : ∀ e ∈ l, NearE e) : EvL H a n l := by
  obtain ⟨vs, h1, h2, h3⟩ := h.out
  refine ⟨⟨vs, h1, h2, fun i v x hv hx => (h3 i v x hv hx).small (hn x (List.mem_of_getElem? hx))⟩, fun e he => ?_⟩
  have := hn e he
  exact ⟨by have := this.d; omega, fun s hs => by have := this.ns s hs; omega, by have := this.s; omega⟩
end Go.Mdl
