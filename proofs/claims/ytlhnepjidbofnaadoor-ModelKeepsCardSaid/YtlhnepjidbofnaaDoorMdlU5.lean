/- Helpers of the law: the document's Right of the first events; blobs in order. -/
import Derived.Test.YtlhnepjidbofnaaDoorMdlU4
namespace Go.Mdl
open Go.Vx Go.Vc Go.Proofs Go.Txt Go.Lab

theorem EvL.sl {H : PHeap} {a : Option Addr} {n c : Nat} {l : List EvX} (h : EvL H a n l) (hnc : n ≤ c) {i : Nat} (hi : i ≤ n) : EvL H (slA a 0 c 10) i (l.take i) := by
  have h' := h.take hi
  obtain ⟨vs, h1, h2, h3⟩ := h'.out
  have h4 := h1.drop (i := 0) (c := c) (by omega) (by omega)
  exact ⟨⟨vs, by simpa using h4, h2, h3⟩, h'.dat⟩
theorem okR_take {l : List EvX} (i : Nat) : okR (l.take i) i ↔ okR l i := by unfold okR; rw [okAt_take (Nat.le_refl i), RA_take (Nat.le_refl i)]
/-- What a name may be, in order. -/
theorem can_of {A : Ch → Prop} {ab : Bool} {bl : List ByteArray} (h1 : ab = true ↔ ∃ z, A z ∧ z.p = false) (h2 : ∀ d, d ∈ bl ↔ ∃ z, A z ∧ z.p = true ∧ z.d = d) : IsCan A ((if ab then [(false, ⟨#[]⟩)] else []) ++ (mergeL bl).map fun t => (true, t)) :=
  ⟨ab, mergeL bl, rfl, h1, (mergeL_rising bl).1, fun t => by rw [(mergeL_rising bl).2, h2]⟩
end Go.Mdl
