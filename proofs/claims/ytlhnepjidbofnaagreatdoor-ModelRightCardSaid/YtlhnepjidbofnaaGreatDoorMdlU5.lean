/- Helpers of the law: the document's Right of the first events; blobs in order. -/
import Derived.Test.YtlhnepjidbofnaaGreatDoorMdlU4
namespace Go.Mdl
open Go.Vx Go.Vc Go.Proofs Go.Txt Go.Lab

theorem EvL.sl {H : PHeap} {a : Option Addr} {n c : Nat} {l : List EvX} (h : EvL H a n l) (hnc : n ≤ c) {i : Nat} (hi : i ≤ n) : EvL H (slA a 0 c 10) i (l.take i) := by
  have h' := h.take hi
  obtain ⟨vs, h1, h2, h3⟩ := h'.out
  have h4 := h1.drop (i := 0) (c := c) (by omega) (by omega)
  exact ⟨⟨vs, by simpa using h4, h2, h3⟩, h'.dat⟩
theorem okR_take {l : List EvX} (i : Nat) : okR (l.take i) i ↔ okR l i := by unfold okR; rw [okAt_take (Nat.le_refl i), RA_take (Nat.le_refl i)]
/-- The document's Right of the first events. -/
theorem rr_at {H : PHeap} {a : Option Addr} {n c k : Nat} {l : List EvX} (h : EvL H a n l) (hS : SmallE l) (hnc : n ≤ c) {i : Nat} (hi : i ≤ n) :
    Triple Tryz.prog 7 #[.slice (slA a 0 c 10) i k] H fun v H' => ∃ b, v = .bool b ∧ (b = true ↔ okR l i) ∧ Sub H H' := by
  have hln := h.len
  have hl := hS.len
  refine (right_ok2 (h.sl hnc hi) (by omega) (hS.take i).ds fun _ s z hz => (hS.take i).ends i s z hz).mono ?_
  rintro _ H' ⟨b, rfl, hb, hs⟩
  exact ⟨b, rfl, by rw [hb, right_iff, okR_take], hs⟩
theorem rr_ok {H : PHeap} {a : Option Addr} {n c : Nat} {l : List EvX} (h : EvL H a n l) (hS : SmallE l) :
    Triple Tryz.prog 7 #[.slice a n c] H fun v H' => ∃ b, v = .bool b ∧ (b = true ↔ okR l n) ∧ Sub H H' := by
  have hln := h.len
  have hl := hS.len
  refine (right_ok2 h (by omega) hS.ds fun _ s z hz => hS.ends n s z hz).mono ?_
  rintro _ H' ⟨b, rfl, hb, hs⟩
  exact ⟨b, rfl, by rw [hb, right_iff], hs⟩
/-- What a name may be, in order. -/
theorem can_of {A : Ch → Prop} {ab : Bool} {bl : List ByteArray} (h1 : ab = true ↔ ∃ z, A z ∧ z.p = false) (h2 : ∀ d, d ∈ bl ↔ ∃ z, A z ∧ z.p = true ∧ z.d = d) : IsCan A ((if ab then [(false, ⟨#[]⟩)] else []) ++ (mergeL bl).map fun t => (true, t)) :=
  ⟨ab, mergeL bl, rfl, h1, (mergeL_rising bl).1, fun t => by rw [(mergeL_rising bl).2, h2]⟩
/-- What was found of a name, tells what the map may be. -/
theorem found_can {ds : List Fl} {F H : PHeap} {f : Nat} {l : List EvX} {s : ByteArray} {n : Nat} (hok : okR l n) (h : FoundK ds F H f (OfA l s n)) :
    ∃ any ab oa k c bl, Bx H f 43 [.bool any, .bool ab, .slice oa k c] ∧ OwnL H 9 strE 1 oa k c bl ∧ bl.Nodup ∧ (∀ d ∈ bl, (true, d) ∈ ds) ∧ IsCan (RA l n s) ((if ab then [(false, ⟨#[]⟩)] else []) ++ (mergeL bl).map fun t => (true, t)) := by
  obtain ⟨any, ab, oa, k, c, bl, h1, _, h3, h4, _, h6, h7, h8⟩ := h.row
  refine ⟨any, ab, oa, k, c, bl, h1, h3, h4, fun d hd => h8 _ ((h7 d).1 hd), can_of ?_ fun d => ?_⟩
  · rw [h6]
    constructor
    · rintro ⟨d, _, z, hz, e⟩; injection e with e1 e2; exact ⟨z, hz, e1.symm⟩
    · rintro ⟨z, hz, hp⟩; exact ⟨z.d, hok.1, z, hz, by rw [hp]⟩
  · rw [h7]
    constructor
    · rintro ⟨_, z, hz, e⟩; injection e with e1 e2; exact ⟨z, hz, e1.symm, e2.symm⟩
    · rintro ⟨z, hz, hp, hd⟩; exact ⟨hok.1, z, hz, by rw [hp, hd]⟩
end Go.Mdl
