/- The law ChorePlays returns true for every input, and leaves its arguments as they were. No condition. -/
import Derived.Test.YtajkbeifgghpmaaGreatRows
import Derived.Lib.SmallJoins
import Derived.Test.YtajkbeifgghpmaaGreatCPk17
namespace Go.Proofs.YtajkbeifgghpmaaGreat.CPlays
open Go.Vx Go.Proofs Go.ChangeShapes Go.WideShapes Go.ChangeAt Go.RowKit Go.Joins
theorem own : ownKnob Tryz.prog.godebug = none := by kernel_rfl
theorem laidOut : laidOutB Tryz.prog = true := by kernel_rfl
set_option maxRecDepth 100000 in
theorem lifted (os : Os) (started : os.Started) (H : Type) (enc : TypeId × Value → H) :
    ReturnsInHanded {} Tryz.checked os 3 .any (Rows.chorePlaysSpec.pre6 enc Tryz.prog Tryz.f3 Rows.chorePlaysRow.domain false) (Rows.chorePlaysSpec.post enc Tryz.prog Tryz.f3 false true false false) := by
  refine returnsInHanded_of_change (C := Tryz.checked) own started (by kernel_rfl) Tryz.func3
    (ChangeSpec.witness6 (enc := enc) (C := Tryz.checked) false ⟨#[], #[.agg #[.int .i64 0, .int .i64 0, .int .i64 0, .int .i64 0, .int .i64 0, .int .i64 0], .agg #[.int .i64 0, .int .i64 0, .string ⟨#[]⟩, .int .i64 0], .slice none 0 0], []⟩ 8 (by kernel_rfl) (by kernel_rfl) (by kernel_rfl) (by kernel_rfl)) ?_
  intro W base args ds gs before hval0 hW _ _
  have hval : ∀ (j : Nat) t v, Tryz.f3.params[j]? = some t → args[j]? = some v → Value.okWide Tryz.prog W .any base t v := hval0
  have hW' := hW
  obtain ⟨p, q, hA0, hV, rfl, _, _⟩ := hW
  have hA : DataW.TrodAll enc Tryz.prog W 0 (fun _ => true) true Tryz.f3.params.toList args.toList ds p := hA0
  rw [Tryz.params3] at hA hval
  obtain ⟨v0, v1, v2, d0, d1, d2, p0, p1, p2, rfl, rfl, rfl, h0, h1, h2⟩ := trodAll_three hA
  obtain ⟨rfl, rfl⟩ := trodVars_none hV
  have oi : Opens enc Tryz.prog W 3 (intE .i64) _ := Opens.int Tryz.underlying3
  have o8 : Opens enc Tryz.prog W 5 (intE .u8) _ := Opens.int Tryz.underlying5
  have ot : Opens enc Tryz.prog W 9 strE _ := Opens.str Tryz.underlying9
  have om := Opens.struct Tryz.underlying52 (OpensF.cons oi (OpensF.cons oi (OpensF.cons oi (OpensF.cons oi (OpensF.cons ot (OpensF.cons oi (OpensF.cons oi (OpensF.cons oi (OpensF.cons oi (OpensF.cons oi (OpensF.cons (Opens.slice Tryz.underlying42 oi (sz := 1) (by kernel_rfl)) (OpensF.cons (Opens.slice Tryz.underlying49 ot (sz := 1) (by kernel_rfl)) (OpensF.one (Opens.slice Tryz.underlying50 o8 (sz := 1) (by kernel_rfl))))))))))))))) (by kernel_rfl) (by kernel_rfl)
  have os := Opens.slice Tryz.underlying28 om (sz := 13) (by kernel_rfl)
  have op := Opens.struct Tryz.underlying23 (OpensF.cons oi (OpensF.cons oi (OpensF.cons oi (OpensF.cons oi (OpensF.cons oi (OpensF.one oi)))))) (by kernel_rfl) (by kernel_rfl)
  obtain ⟨⟨n1, n2, n3, n4, n5, n6⟩, rfl, _⟩ := Opens.agg op Tryz.underlying23 (hval 0 _ v0 rfl rfl) h0
  have och := Opens.struct Tryz.underlying25 (OpensF.cons oi (OpensF.cons ot (OpensF.one oi))) (by kernel_rfl) (by kernel_rfl)
  have oq := Opens.struct Tryz.underlying27 (OpensF.cons oi (OpensF.one och)) (by kernel_rfl) (by kernel_rfl)
  obtain ⟨⟨q1, q2, q3, q4⟩, rfl, _⟩ := Opens.agg oq Tryz.underlying27 (hval 1 _ v1 rfl rfl) h1
  obtain ⟨b, rfl, hb, kb, nb, cb⟩ := Opens.oneS os Tryz.underlying28 (hval 2 _ v2 rfl rfl) h2
  refine ((Cho.plays_okO (p := ⟨n1, n2, n3, n4, n5, n6⟩) (b := q1) (ch := ⟨q2, q3, q4⟩) hb (fun x hx => by
    obtain ⟨_, _, _, _, _, _, _, _, _, _, g1, g2, g3⟩ := kb x hx
    exact ⟨g1.1, g2.1, g3.1⟩) (Nat.le_trans nb cb)).out W (sees_heapOf W)).mono ?_
  rintro e W' ⟨v, H', rfl, hn, rfl, hs⟩
  exact ⟨_, rfl, law_post hW' laidOut rfl rfl Tryz.underlying4 (of_decide_eq_true (by kernel_rfl)) rfl hn hs⟩
theorem holds : Rows.ChorePlaysSaid :=
  OpenClaim.holds_of_wide 3 Tryz.f3 rfl rfl rfl rfl rfl rfl rfl ⟨rfl, rfl, rfl, rfl, rfl⟩ rfl rfl rfl rfl rfl (by kernel_rfl) Tryz.func3 (by kernel_rfl)
    (of_decide_eq_true (by kernel_rfl)) (by unfold Func.isWrapper; first | (rw [if_pos (by decide +kernel)]; kernel_rfl) | (rw [if_neg (by decide +kernel)]; exact ⟨rfl, rfl⟩))
    (fun os started H enc _ => lifted os started H enc)
#print axioms holds
end Go.Proofs.YtajkbeifgghpmaaGreat.CPlays
