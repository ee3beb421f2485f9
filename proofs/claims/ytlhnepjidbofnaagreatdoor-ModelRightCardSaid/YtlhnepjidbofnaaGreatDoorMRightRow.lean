/- The law ModelRight returns true for every input, and leaves its arguments as they were. No condition but what the row lists of the package's variables; the card ties these to the program's text. -/
import Derived.Test.YtlhnepjidbofnaaGreatDoorRows
import Derived.Test.YtlhnepjidbofnaaGreatDoorCards
import Derived.Test.YtlhnepjidbofnaaGreatDoorTie
import Derived.Test.YtlhnepjidbofnaaGreatDoorMdlU6
import Derived.Test.YtlhnepjidbofnaaGreatDoorMdlOp
import Derived.Lib.SmallJoins
import Derived.Lay
namespace Go.Proofs.YtlhnepjidbofnaaGreatDoor.MRight
open Go.Vx Go.Proofs Go.ChangeShapes Go.WideShapes Go.ChangeAt Go.RowKit Go.Joins

theorem own : ownKnob Tryz.prog.godebug = none := by kernel_rfl
theorem laidOut : laidOutB Tryz.prog = true := by kernel_rfl
set_option maxRecDepth 100000 in
theorem lifted (os : Os) (started : os.Started) (H : Type) (enc : TypeId × Value → H) :
    ReturnsInHanded {} Tryz.checked os 3 .any (fun w args => (Rows.modelRightSpec.pre enc Tryz.prog Tryz.f3 [] false w args ∧ laidMetH Tryz.prog Rows.modelRightRow.laid w) ∧ sizedMet enc Tryz.prog Tryz.f3 (OpenSpec.ofChange Rows.modelRightSpec) false w args)
      (Rows.modelRightSpec.post enc Tryz.prog Tryz.f3 false true false false) := by
  refine returnsInHanded_of_change_and (C := Tryz.checked) (X := fun w _ => laidMetH Tryz.prog Rows.modelRightRow.laid w) (fun _ _ _ hh h => h.of_heap hh) own started (by kernel_rfl) Tryz.func3
    (ChangeSpec.witness_shaped (enc := enc) (C := Tryz.checked) (os := os) (X := fun w _ => laidMetH Tryz.prog Rows.modelRightRow.laid w) false (World.laidAll Tryz.prog os Rows.modelRightRow.laid) #[.slice none 0 0] 8 (World.laidAll_os _ _ _)
      (World.shaped_of_ZipB (by kernel_rfl) (by kernel_rfl)) (by kernel_rfl) (by kernel_rfl) (by kernel_rfl)
      (by rw [MakeChecks.laidMetH_plain _ _ _ (by kernel_rfl)]; exact laidMet_laidAll _ (by kernel_rfl) (by kernel_rfl))) ?_
  intro W base args ds gs before hval0 hW _ _ hL _
  have hval : ∀ (j : Nat) t v, Tryz.f3.params[j]? = some t → args[j]? = some v → Value.okWide Tryz.prog W .any base t v := hval0
  have hW' := hW
  obtain ⟨p, q, hA0, hV, rfl, _, _⟩ := hW
  have hA : DataW.TrodAll enc Tryz.prog W 0 (fun _ => true) true Tryz.f3.params.toList args.toList ds p := hA0
  rw [Tryz.params3] at hA hval
  obtain ⟨v0, d0, rfl, rfl, h0⟩ := trodAll_one hA
  obtain ⟨rfl, rfl⟩ := trodVars_none hV
  obtain ⟨s, rfl, hs, hk, hnc, hc⟩ := Opens.oneS (Opens.slice Tryz.underlying22 Mdl.ev_opens (sz := 10) (by kernel_rfl)) Tryz.underlying22 (hval 0 _ v0 rfl rfl) h0
  obtain ⟨l, hl⟩ := Mdl.evL_of hs hk
  rw [MakeChecks.laidMetH_plain _ _ _ (by kernel_rfl)] at hL
  have hT := Mdl.tabs_laid hL (by simp [Rows.modelRightRow, Rows.laid_unicode_utf8_first]) (by simp only [Rows.modelRightRow]; exact .head _) (by simp [Rows.modelRightRow, Rows.laid_strconv_isPrint16]) (by simp [Rows.modelRightRow, Rows.laid_strconv_isNotPrint16]) (by simp [Rows.modelRightRow, Rows.laid_strconv_isPrint32]) (by simp [Rows.modelRightRow, Rows.laid_strconv_isNotPrint32])
  refine ((Mdl.law_right hT hl hnc (Nat.le_trans hnc hc)).out W (sees_heapOf W)).mono ?_
  rintro e W' ⟨v, H', rfl, hn, rfl, hs⟩
  exact ⟨_, rfl, law_post hW' laidOut rfl rfl Tryz.underlying4 (of_decide_eq_true (by kernel_rfl)) rfl hn hs⟩

theorem holds : Rows.ModelRightSaid :=
  OpenClaim.holds_of_wide 3 Tryz.f3 rfl rfl rfl rfl rfl rfl rfl ⟨rfl, rfl, rfl, rfl, rfl⟩ rfl rfl rfl rfl rfl (by kernel_rfl) Tryz.func3 (by kernel_rfl)
    (of_decide_eq_true (by kernel_rfl)) (by unfold Func.isWrapper; first | (rw [if_pos (by decide +kernel)]; kernel_rfl) | (rw [if_neg (by decide +kernel)]; exact ⟨rfl, rfl⟩))
    (fun os started H enc _ => lifted os started H enc)
theorem card_holds : Rows.ModelRightCardSaid :=
  Claim7.holds_tied_plain_at .later [] [.data, .pinned, .pinned, .pinned, .pinned, .pinned, .pinned] true (true, "48c66aa6e03761f743f587c3a19eb6879411ae7bbd0810c1c350b9ebb872f796") false
    holds (fun _ h => by cases h) (by kernel_rfl) (fun _ h => by cases h) modelRight_row_tie rfl ⟨rfl, rfl⟩ (by kernel_rfl) rfl
    (fun f fn hf hfn => by
      obtain rfl : f = 3 := Option.some.inj ((show Tryz.prog.funcNamed "sherd/sherdlaw49.ModelRight" = some 3 by kernel_rfl).symm.trans hf) |>.symm
      obtain rfl : fn = Tryz.f3 := (Option.some.inj (Tryz.func3.symm.trans hfn)).symm
      exact ⟨by kernel_rfl, fun j t ht => by
        rw [Tryz.params3] at ht
        have hm : t ∈ [22] := by simpa using Array.mem_of_getElem? ht
        have hall : ([22].all fun u => !Tryz.prog.wantsStandIn u) = true := by kernel_rfl
        exact (show Tryz.prog.wantsStandIn t = false by simpa using List.all_eq_true.1 hall t hm)⟩)
    (by kernel_rfl)
#print axioms card_holds
end Go.Proofs.YtlhnepjidbofnaaGreatDoor.MRight
