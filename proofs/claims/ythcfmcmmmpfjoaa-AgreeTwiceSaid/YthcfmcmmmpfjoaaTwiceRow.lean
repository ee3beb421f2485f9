/- The law AgreeTwice returns true for every input, and leaves its arguments as they were. No condition. -/
import Derived.Test.YthcfmcmmmpfjoaaRows
import Derived.Test.YthcfmcmmmpfjoaaAgrX
import Derived.Lib.SmallJoins
namespace Go.Proofs.Ythcfmcmmmpfjoaa.ATwice
open Go.Vx Go.Proofs Go.ChangeShapes Go.WideShapes Go.ChangeAt Go.RowKit Go.Joins

theorem own : ownKnob Try.prog.godebug = none := by kernel_rfl
theorem laidOut : laidOutB Try.prog = true := by kernel_rfl
set_option maxRecDepth 100000 in
theorem lifted (os : Os) (started : os.Started) (H : Type) (enc : TypeId × Value → H) :
    ReturnsInHanded {} Try.checked os 5 .any (Rows.agreeTwiceSpec.pre6 enc Try.prog Try.f5 Rows.agreeTwiceRow.domain false) (Rows.agreeTwiceSpec.post enc Try.prog Try.f5 false true false false) := by
  refine returnsInHanded_of_change (C := Try.checked) own started (by kernel_rfl) Try.func5
    (ChangeSpec.witness6 (enc := enc) (C := Try.checked) false ⟨#[], #[.agg #[.int .i64 0, .int .i64 0, .int .i64 0, .int .i64 0, .int .i64 0, .int .i64 0], .agg #[.int .i64 0, .string ⟨#[]⟩, .bool false, .bool false, .bool false, .int .i64 0, .int .i64 0, .int .i64 0], .slice none 0 0], []⟩ 8 (by kernel_rfl) (by kernel_rfl) (by kernel_rfl) (by kernel_rfl)) ?_
  intro W base args ds gs before hval0 hW _ _
  have hval : ∀ (j : Nat) t v, Try.f5.params[j]? = some t → args[j]? = some v → Value.okWide Try.prog W .any base t v := hval0
  have hW' := hW
  obtain ⟨p, q, hA0, hV, rfl, _, _⟩ := hW
  have hA : DataW.TrodAll enc Try.prog W 0 (fun _ => true) true Try.f5.params.toList args.toList ds p := hA0
  rw [Try.params5] at hA hval
  obtain ⟨v0, v1, v2, d0, d1, d2, p0, p1, p2, rfl, rfl, rfl, h0, h1, h2⟩ := trodAll_three hA
  obtain ⟨rfl, rfl⟩ := trodVars_none hV
  have oi : Opens enc Try.prog W 3 (intE .i64) _ := Opens.int Try.underlying3
  have o8 : Opens enc Try.prog W 5 (intE .u8) _ := Opens.int Try.underlying5
  have ot : Opens enc Try.prog W 9 strE _ := Opens.str Try.underlying9
  have om := Opens.struct Try.underlying32 (OpensF.cons oi (OpensF.cons oi (OpensF.cons oi (OpensF.cons oi (OpensF.cons ot (OpensF.cons oi (OpensF.cons oi (OpensF.cons oi (OpensF.cons oi (OpensF.cons oi (OpensF.cons (Opens.slice Try.underlying29 oi (sz := 1) (by kernel_rfl)) (OpensF.cons (Opens.slice Try.underlying30 ot (sz := 1) (by kernel_rfl)) (OpensF.one (Opens.slice Try.underlying25 o8 (sz := 1) (by kernel_rfl))))))))))))))) (by kernel_rfl) (by kernel_rfl)
  have os := Opens.slice Try.underlying24 om (sz := 13) (by kernel_rfl)
  have op := Opens.struct Try.underlying23 (OpensF.cons oi (OpensF.cons oi (OpensF.cons oi (OpensF.cons oi (OpensF.cons oi (OpensF.one oi)))))) (by kernel_rfl) (by kernel_rfl)
  obtain ⟨⟨n1, n2, n3, n4, n5, n6⟩, rfl, _⟩ := Opens.agg op Try.underlying23 (hval 0 _ v0 rfl rfl) h0
  have obo : Opens enc Try.prog W 4 boolE _ := Opens.bool Try.underlying4
  have ova := Opens.struct Try.underlying45 (OpensF.cons obo (OpensF.cons oi (OpensF.cons oi (OpensF.one oi)))) (by kernel_rfl) (by kernel_rfl)
  have oq := Opens.struct Try.underlying47 (OpensF.cons oi (OpensF.cons ot (OpensF.cons obo (OpensF.cons obo (OpensF.one ova))))) (by kernel_rfl) (by kernel_rfl)
  obtain ⟨⟨q1, q2, q3, q4, q5, q6, q7, q8⟩, rfl, _⟩ := Opens.agg oq Try.underlying47 (hval 1 _ v1 rfl rfl) h1
  obtain ⟨b, rfl, hb, kb, nb, cb⟩ := Opens.oneS os Try.underlying24 (hval 2 _ v2 rfl rfl) h2
  refine ((Agr.twice_ok (p := ⟨n1, n2, n3, n4, n5, n6⟩) (b := q1) (nm := q2) (fx := q3) (flag := q4) (v := ⟨q5, q6, q7, q8⟩) hb (fun x hx => by
    obtain ⟨_, _, _, _, _, _, _, _, _, _, g1, g2, g3⟩ := kb x hx
    exact ⟨g1.1, g2.1, g3.1⟩) (Nat.le_trans nb cb)).out W (sees_heapOf W)).mono ?_
  rintro e W' ⟨v, H', rfl, hn, rfl, hs⟩
  exact ⟨_, rfl, law_post hW' laidOut rfl rfl Try.underlying4 (of_decide_eq_true (by kernel_rfl)) rfl hn hs⟩

theorem holds : Rows.AgreeTwiceSaid :=
  OpenClaim.holds_of_wide 5 Try.f5 rfl rfl rfl rfl rfl rfl rfl ⟨rfl, rfl, rfl, rfl, rfl⟩ rfl rfl rfl rfl rfl (by kernel_rfl) Try.func5 (by kernel_rfl)
    (of_decide_eq_true (by kernel_rfl)) (by unfold Func.isWrapper; first | (rw [if_pos (by decide +kernel)]; kernel_rfl) | (rw [if_neg (by decide +kernel)]; exact ⟨rfl, rfl⟩))
    (fun os started H enc _ => lifted os started H enc)
#print axioms holds
end Go.Proofs.Ythcfmcmmmpfjoaa.ATwice
