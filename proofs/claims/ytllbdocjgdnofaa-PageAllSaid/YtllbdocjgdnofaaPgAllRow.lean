/- The law PageAll returns true for every input, and leaves its arguments as they were. No condition. -/
import Derived.Test.YtllbdocjgdnofaaRows
import Derived.Test.YtllbdocjgdnofaaPgD
import Derived.Lib.SmallJoins
namespace Go.Proofs.Ytllbdocjgdnofaa.PgAll
open Go.Vx Go.Proofs Go.ChangeShapes Go.WideShapes Go.ChangeAt Go.RowKit Go.Joins

theorem own : ownKnob Try.prog.godebug = none := by kernel_rfl
theorem laidOut : laidOutB Try.prog = true := by kernel_rfl
set_option maxRecDepth 100000 in
theorem lifted (os : Os) (started : os.Started) (H : Type) (enc : TypeId × Value → H) :
    ReturnsInHanded {} Try.checked os 3 .any (Rows.pageAllSpec.pre6 enc Try.prog Try.f3 Rows.pageAllRow.domain false) (Rows.pageAllSpec.post enc Try.prog Try.f3 false true false false) := by
  refine returnsInHanded_of_change (C := Try.checked) own started (by kernel_rfl) Try.func3
    (ChangeSpec.witness6 (enc := enc) (C := Try.checked) false ⟨#[], #[.slice none 0 0, .int .u8 0], []⟩ 8 (by kernel_rfl) (by kernel_rfl) (by kernel_rfl) (by kernel_rfl)) ?_
  intro W base args ds gs before hval0 hW _ _
  have hval : ∀ (j : Nat) t v, Try.f3.params[j]? = some t → args[j]? = some v → Value.okWide Try.prog W .any base t v := hval0
  have hW' := hW
  obtain ⟨p, q, hA0, hV, rfl, _, _⟩ := hW
  have hA : DataW.TrodAll enc Try.prog W 0 (fun _ => true) true Try.f3.params.toList args.toList ds p := hA0
  rw [Try.params3] at hA hval
  obtain ⟨v0, v1, d0, d1, p0, p1, rfl, rfl, rfl, h0, h1⟩ := trodAll_two hA
  obtain ⟨rfl, rfl⟩ := trodVars_none hV
  have ot : Opens enc Try.prog W 9 strE _ := Opens.str Try.underlying9
  have osl := Opens.slice Try.underlying24 ot (sz := 1) (by kernel_rfl)
  have oi : Opens enc Try.prog W 5 (intE .u8) _ := Opens.int Try.underlying5
  obtain ⟨l, rfl, hl, hk, _⟩ := Opens.oneS (Opens.slice Try.underlying22 osl (sz := 1) (by kernel_rfl)) Try.underlying22 (hval 0 _ v0 rfl rfl) h0
  obtain ⟨a, rfl, ha⟩ := Opens.oneInt oi Try.underlying5 (hval 1 _ v1 rfl rfl) h1
  obtain ⟨a0, a1⟩ := wf8 ha
  refine ((Page.all_ok ⟨hl, fun p hp => (hk p hp).1⟩ a0 a1).out W (sees_heapOf W)).mono ?_
  rintro e W' ⟨v, H', rfl, hn, rfl, hs⟩
  exact ⟨_, rfl, law_post hW' laidOut rfl rfl Try.underlying4 (of_decide_eq_true (by kernel_rfl)) rfl hn hs⟩

theorem holds : Rows.PageAllSaid :=
  OpenClaim.holds_of_wide 3 Try.f3 rfl rfl rfl rfl rfl rfl rfl ⟨rfl, rfl, rfl, rfl, rfl⟩ rfl rfl rfl rfl rfl (by kernel_rfl) Try.func3 (by kernel_rfl)
    (of_decide_eq_true (by kernel_rfl)) (by unfold Func.isWrapper; first | (rw [if_pos (by decide +kernel)]; kernel_rfl) | (rw [if_neg (by decide +kernel)]; exact ⟨rfl, rfl⟩))
    (fun os started H enc _ => lifted os started H enc)
#print axioms holds
end Go.Proofs.Ytllbdocjgdnofaa.PgAll
