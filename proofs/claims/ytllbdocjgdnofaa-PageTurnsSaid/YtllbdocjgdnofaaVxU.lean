/- The executor's use: contracts of calls, and from a contract to a row. -/
import Derived.Test.YtllbdocjgdnofaaVxN
import Derived.ProofKit
namespace Go.Vx
open Go.RowKit Go.WideShapes Go.ChangeShapes

theorem Sub.refl (H : PHeap) : Sub H H := ⟨fun _ _ h => h⟩
theorem Sub.trans {A B C : PHeap} (h : Sub A B) (h' : Sub B C) : Sub A C := ⟨fun k o hk => h'.le k o (h.le k o hk)⟩
theorem Sub.upd {H : PHeap} {b : Nat} (o : Obj) (h : H b = none) : Sub H (H.upd b o) := ⟨fun k o' hk => by unfold PHeap.upd; rw [if_neg (fun e => by rw [e, h] at hk; cases hk)]; exact hk⟩
theorem Triple.mono {P : Program} {f : FuncId} {args : Array Value} {H : PHeap} {Q Q' : Value → PHeap → Prop} (h : Triple P f args H Q) (hq : ∀ v H', Q v H' → Q' v H') : Triple P f args H Q' :=
  ⟨fun w hs => (h.out w hs).mono fun _ _ ⟨v, H', he, hn, hQ⟩ => ⟨v, H', he, hn, hq v H' hQ⟩⟩
/-- A function that only computes. -/
def Pure (P : Program) (f : FuncId) (args : Array Value) (v : Value) : Prop := ∀ H, Triple P f args H fun v' H' => v' = v ∧ H' = H
theorem Pure.use {P : Program} {f : FuncId} {args : Array Value} {v : Value} (h : Pure P f args v) {H : PHeap} {Q : Value → PHeap → Prop} (hq : Q v H) : Triple P f args H Q :=
  (h H).mono fun _ _ ⟨e1, e2⟩ => by rw [e1, e2]; exact hq

/-! ### From a contract to a row -/
def heapOf (W : World) : PHeap := fun k => W.heap[k]?
theorem sees_heapOf (W : World) : Sees (heapOf W) W := fun _ _ h => h
theorem below_of {W W' : World} {H' : PHeap} (h : Nx (heapOf W) H' W W') (hs : Sub (heapOf W) H') : Below W.heap.size W W' := by
  refine ⟨h.os, h.tape, h.output, h.size, fun k hk => ?_⟩
  have : W.heap[k]? = some W.heap[k] := Array.getElem?_eq_getElem hk
  rw [this]
  exact h.sees k _ (hs.le k _ this)
section
variable {H : Type} {enc : TypeId × Value → H} {P : Program}
theorem trodAll_stays (hl : laidOutB P = true) {W W' : World} (hb : Below W.heap.size W W') {sp : Nat → Bool} :
    ∀ {ts : List TypeId} {vs : List Value} {ds : List (DataW H)} {ps : List MemPlace}, (∀ t ∈ ts, P.readableRec t = true ∧ t < P.types.size) → DataW.TrodAll enc P W 0 (fun _ => true) true ts vs ds ps →
      (∀ x ∈ ps, x.block < W.heap.size) → (∀ x ∈ ps, sp x.block = true) → DataW.TrodAll enc P W' 0 sp true ts vs ds ps
  | [], vs, ds, ps, _, h, _, _ => by
    obtain ⟨rfl, rfl, rfl⟩ := trodAll_nil h
    exact h
  | t :: ts, vs, ds, ps, ht, h, hlt, hsp => by
    obtain ⟨v, vs', d, ds', p, q, rfl, rfl, rfl, h1, h2⟩ := trodAll_cons h
    have hl1 : ∀ x ∈ p, x.block < W.heap.size := fun x hx => hlt x (List.mem_append.2 (.inl hx))
    refine ⟨p, q, ?_, trodAll_stays hl hb (fun t' ht' => ht t' (List.mem_cons_of_mem _ ht')) h2 (fun x hx => hlt x (List.mem_append.2 (.inr hx))) (fun x hx => hsp x (List.mem_append.2 (.inr hx))), rfl⟩
    exact WideElems.Trod_stays hl (ht t (List.mem_cons_self ..)).1 (ht t (List.mem_cons_self ..)).2 h1 (fun x hx => hb.same (hl1 x hx)) (fun x hx => hsp x (List.mem_append.2 (.inl hx)))
/-- The row's end, for a law: true, each argument as it was. -/
theorem law_post {f : Func} {s : ChangeSpec} {apart fresh handsOn again : Bool} {W W' : World} {args : Array Value} {ds gs : List (DataW H)} {before : List MemPlace} {t : TypeId} {H' : PHeap}
    (hW : DataW.Whole enc P f.params.toList s.vars apart W args.toList ds gs before) (hl : laidOutB P = true) (hvars : s.vars = []) (hr : f.resultTypes = #[t]) (ht : P.underlying t = some .bool)
    (hparams : ∀ t ∈ f.params.toList, P.readableRec t = true ∧ t < P.types.size) (hspec : s.fn H (ds ++ gs) = { results := [.lit (.bool true)], args := ds })
    (hn : Nx (heapOf W) H' W W') (hsub : Sub (heapOf W) H') : s.post enc P f apart fresh handsOn again W args (.bool true) W' := by
  have hb := below_of hn hsub
  have hlt : ∀ p ∈ before, p.block < W.heap.size := fun p hp => hW.lt p hp
  have hW' := hW
  obtain ⟨pa, pv, hA, hV, rfl, hz, hnd⟩ := hW'
  have hpv : pv = [] ∧ gs = [] := by
    rw [hvars] at hV
    obtain ⟨h1, h2⟩ := trodVars_none hV
    exact ⟨h2, h1⟩
  obtain ⟨rfl, rfl⟩ := hpv
  simp only [List.append_nil] at hlt
  have hA' : ∀ sp : Nat → Bool, (∀ p ∈ pa, sp p.block = true) → DataW.TrodAll enc P W' 0 sp true f.params.toList args.toList ds pa := fun sp hsp => trodAll_stays hl hb hparams hA hlt hsp
  have hres : ∀ (b : Nat) (sp : Nat → Bool) (hd : Bool), DataW.TrodAll enc P W' b sp hd f.resultTypes.toList ((Value.bool true).resultList f.resultTypes.size) [.lit (.bool true)] [] := by
    intro b sp hd
    rw [hr]
    exact trodAll_mk1 ⟨1, by simp [DataW.trod, ht, Value.cells]⟩
  have hvar : ∀ sp : Nat → Bool, DataW.TrodVars enc P W' sp s.vars ([] : List (DataW H)) [] := fun sp => by rw [hvars]; exact rfl
  have hold : ∀ p ∈ pa, (fun b => decide (b < W.heap.size)) p.block = true := fun p hp => by simpa using hlt p hp
  refine ⟨ds, [], pa ++ [], [], pa, [], hW, by rw [hspec]; exact hres _ _ _, by rw [hspec]; exact hA' _ hold, by rw [hspec]; exact hvar _, World.keptBut_mono (fun p hp => ⟨hp, .inr (.inl (by simpa using hp))⟩) (hb.frame (· ∈ pa ++ [])), fun _ => ⟨?_, ?_⟩⟩
  · intro j t' r hj hv
    rw [hr] at hj hv
    match j, hj, hv with
    | 0, hj, hv =>
      simp [Value.resultList] at hj hv
      subst hj hv
      exact okWide_bool_mk ht true
    | j + 1, hj, _ => simp at hj
  · refine ⟨_, _, _, ⟨[] ++ pa, [], trodAll_append (hA' _ (fun _ _ => rfl)) (hres _ _ _), hvar _, rfl, ?_, ?_⟩, ?_⟩
    · intro b off hp
      have hin : MemPlace.cell b off ∈ pa := by simpa using hp
      rw [hb.frozen (hlt _ hin)]
      exact hz b off (by simpa using hin)
    · intro ha
      have := hnd ha
      simpa using this
    · intro p hp _
      simpa using hp
end
end Go.Vx
