/- The law LabelBack returns true for every input, and leaves its arguments as they were. No condition. -/
import Derived.Test.YtnecdiohiojfpaaRows
import Derived.Test.YtnecdiohiojfpaaBack
import Derived.Lib.SmallJoins
namespace Go.Proofs.Ytnecdiohiojfpaa.Back
open Go.Vx Go.Proofs Go.ChangeShapes Go.WideShapes Go.ChangeAt Go.RowKit Go.Joins

theorem own : ownKnob Try.prog.godebug = none := by kernel_rfl
theorem laidOut : laidOutB Try.prog = true := by kernel_rfl
set_option maxRecDepth 100000 in
theorem lifted (os : Os) (started : os.Started) (H : Type) (enc : TypeId × Value → H) :
    ReturnsInHanded {} Try.checked os 5 .any (Rows.labelBackSpec.pre6 enc Try.prog Try.f5 Rows.labelBackRow.domain false) (Rows.labelBackSpec.post enc Try.prog Try.f5 false true false false) := by
  refine returnsInHanded_of_change (C := Try.checked) own started (by kernel_rfl) Try.func5
    (ChangeSpec.witness6 (enc := enc) (C := Try.checked) false ⟨#[], #[.string ⟨#[]⟩, .slice none 0 0], []⟩ 8 (by kernel_rfl) (by kernel_rfl) (by kernel_rfl) (by kernel_rfl)) ?_
  intro W base args ds gs before hval0 hW _ _
  have hval : ∀ (j : Nat) t v, Try.f5.params[j]? = some t → args[j]? = some v → Value.okWide Try.prog W .any base t v := hval0
  have hW' := hW
  obtain ⟨p, q, hA0, hV, rfl, _, _⟩ := hW
  have hA : DataW.TrodAll enc Try.prog W 0 (fun _ => true) true Try.f5.params.toList args.toList ds p := hA0
  rw [Try.params5] at hA hval
  obtain ⟨v0, v1, d0, d1, p0, p1, rfl, rfl, rfl, h0, h1⟩ := trodAll_two hA
  obtain ⟨rfl, rfl⟩ := trodVars_none hV
  have o8 : Opens enc Try.prog W 5 (intE .u8) _ := Opens.int Try.underlying5
  have ot : Opens enc Try.prog W 9 strE _ := Opens.str Try.underlying9
  obtain ⟨a, rfl, _⟩ := Opens.oneStr ot Try.underlying9 (hval 0 _ v0 rfl rfl) h0
  obtain ⟨b, rfl, hb, hw, hc, _⟩ := Opens.oneS (Opens.slice Try.underlying34 o8 (sz := 1) (by kernel_rfl)) Try.underlying34 (hval 1 _ v1 rfl rfl) h1
  refine ((Lab.back_ok (s := a) hb hc (fun x hx => wf8 (hw x hx))).out W (sees_heapOf W)).mono ?_
  rintro e W' ⟨v, H', rfl, hn, rfl, hs⟩
  exact ⟨_, rfl, law_post hW' laidOut rfl rfl Try.underlying4 (of_decide_eq_true (by kernel_rfl)) rfl hn hs⟩

theorem holds : Rows.LabelBackSaid :=
  OpenClaim.holds_of_wide 5 Try.f5 rfl rfl rfl rfl rfl rfl rfl ⟨rfl, rfl, rfl, rfl, rfl⟩ rfl rfl rfl rfl rfl (by kernel_rfl) Try.func5 (by kernel_rfl)
    (of_decide_eq_true (by kernel_rfl)) (by unfold Func.isWrapper; first | (rw [if_pos (by decide +kernel)]; kernel_rfl) | (rw [if_neg (by decide +kernel)]; exact ⟨rfl, rfl⟩))
    (fun os started H enc _ => lifted os started H enc)
#print axioms holds
end Go.Proofs.Ytnecdiohiojfpaa.Back
