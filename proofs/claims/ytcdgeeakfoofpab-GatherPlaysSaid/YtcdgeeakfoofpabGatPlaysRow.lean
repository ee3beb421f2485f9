/- The law GatherPlays returns true for every input, and leaves its argument as it was. No condition. -/
import Derived.Test.YtcdgeeakfoofpabRows
import Derived.Test.YtcdgeeakfoofpabGatPlays
import Derived.Lib.SmallJoins
namespace Go.Proofs.Ytcdgeeakfoofpab.GPlays
open Go.Vx Go.Proofs Go.ChangeShapes Go.WideShapes Go.ChangeAt Go.RowKit Go.Joins

theorem own : ownKnob Try.prog.godebug = none := by kernel_rfl
theorem laidOut : laidOutB Try.prog = true := by kernel_rfl
set_option maxRecDepth 100000 in
theorem lifted (os : Os) (started : os.Started) (H : Type) (enc : TypeId × Value → H) :
    ReturnsInHanded {} Try.checked os 3 .any (Rows.gatherPlaysSpec.pre6 enc Try.prog Try.f3 Rows.gatherPlaysRow.domain false) (Rows.gatherPlaysSpec.post enc Try.prog Try.f3 false true false false) := by
  refine returnsInHanded_of_change (C := Try.checked) own started (by kernel_rfl) Try.func3
    (ChangeSpec.witness6 (enc := enc) (C := Try.checked) false ⟨#[], #[.slice none 0 0], []⟩ 8 (by kernel_rfl) (by kernel_rfl) (by kernel_rfl) (by kernel_rfl)) ?_
  intro W base args ds gs before hval0 hW _ _
  have hval : ∀ (j : Nat) t v, Try.f3.params[j]? = some t → args[j]? = some v → Value.okWide Try.prog W .any base t v := hval0
  have hW' := hW
  obtain ⟨p, q, hA0, hV, rfl, _, _⟩ := hW
  have hA : DataW.TrodAll enc Try.prog W 0 (fun _ => true) true Try.f3.params.toList args.toList ds p := hA0
  rw [Try.params3] at hA hval
  obtain ⟨v0, d0, rfl, rfl, h0⟩ := trodAll_one hA
  obtain ⟨rfl, rfl⟩ := trodVars_none hV
  have oi : Opens enc Try.prog W 3 (intE .i64) _ := Opens.int Try.underlying3
  have o8 : Opens enc Try.prog W 5 (intE .u8) _ := Opens.int Try.underlying5
  have oa := Opens.struct Try.underlying34 (OpensF.cons oi (OpensF.cons oi (OpensF.cons (Opens.slice Try.underlying24 oi (sz := 1) (by kernel_rfl)) (OpensF.one (Opens.slice Try.underlying32 o8 (sz := 1) (by kernel_rfl)))))) (by kernel_rfl) (by kernel_rfl)
  obtain ⟨l, rfl, hl, hok, _⟩ := Opens.oneS (Opens.slice Try.underlying22 oa (sz := 4) (by kernel_rfl)) Try.underlying22 (hval 0 _ v0 rfl rfl) h0
  refine ((Gat.plays_ok hl fun x hx => ?_).out W (sees_heapOf W)).mono ?_
  · obtain ⟨_, h2, h3, h4⟩ := hok x hx
    exact ⟨h3.1, h4.1, h4.2.2.1, (wf64 h2).2, fun w hw => (wf64 (h3.2.1 w hw)).2⟩
  rintro e W' ⟨v, H', rfl, hn, rfl, hs⟩
  exact ⟨_, rfl, law_post hW' laidOut rfl rfl Try.underlying4 (of_decide_eq_true (by kernel_rfl)) rfl hn hs⟩

theorem holds : Rows.GatherPlaysSaid :=
  OpenClaim.holds_of_wide 3 Try.f3 rfl rfl rfl rfl rfl rfl rfl ⟨rfl, rfl, rfl, rfl, rfl⟩ rfl rfl rfl rfl rfl (by kernel_rfl) Try.func3 (by kernel_rfl)
    (of_decide_eq_true (by kernel_rfl)) (by unfold Func.isWrapper; first | (rw [if_pos (by decide +kernel)]; kernel_rfl) | (rw [if_neg (by decide +kernel)]; exact ⟨rfl, rfl⟩))
    (fun os started H enc _ => lifted os started H enc)
#print axioms holds
end Go.Proofs.Ytcdgeeakfoofpab.GPlays
