/- The law ModelKeeps returns true for every input, and leaves its arguments as they were. No condition but what the row lists of the package's variables; the card ties these to the program's text. -/
import Derived.Test.YtlhnepjidbofnaaDoorRows
import Derived.Test.YtlhnepjidbofnaaDoorCards
import Derived.Test.YtlhnepjidbofnaaDoorTie
import Derived.Test.YtlhnepjidbofnaaDoorMdlP2
import Derived.Test.YtlhnepjidbofnaaDoorMdlOp
import Derived.Lib.SmallJoins
import Derived.SizedLaws
import Derived.Lay
namespace Go.Proofs.YtlhnepjidbofnaaDoor.MKeeps
open Go.Vx Go.Proofs Go.ChangeShapes Go.WideShapes Go.ChangeAt Go.RowKit Go.Joins

theorem sl_bytes {H : Type} {enc : TypeId × Value → H} {P : Program} {W : World} {t e : TypeId} (ht : P.underlying t = some (.slice e)) {sz : Nat} (hz : P.bytesOf e = sz) {oa : Option Addr} {n c : Nat} {d : DataW H} {ps : List MemPlace}
    (hd : DataW.Trod enc P W 0 (fun _ => true) true t (.slice oa n c) d ps) (hs : ∀ el sp, d = .slice el sp → (el.length + sp.length) * P.bytesOf e ≤ reachBytes) : n * sz ≤ reachBytes := by
  obtain ⟨fuel, hf⟩ := hd
  rcases DataW.trod_slice ht hf with ⟨e1, _⟩ | ⟨a, len, cap, elems, rest, m, _, e1, e2, _, _, _, hlen, _⟩
  · simp [Value.cells] at e1
    rw [e1.2.1, Nat.zero_mul]; exact Nat.zero_le _
  · simp [Value.cells] at e1
    have := hs _ _ (congrArg Prod.fst e2)
    rw [hz, List.length_map, List.length_map, hlen, ← e1.2.1] at this
    exact Nat.le_trans (Nat.mul_le_mul_right _ (Nat.le_add_right _ _)) this
theorem own : ownKnob Tryd.prog.godebug = none := by kernel_rfl
theorem laidOut : laidOutB Tryd.prog = true := by kernel_rfl
set_option maxRecDepth 100000 in
theorem lifted (os : Os) (started : os.Started) (H : Type) (enc : TypeId × Value → H) :
    ReturnsInHanded {} Tryd.checked os 3 .any (fun w args => (Rows.modelKeepsSpec.pre enc Tryd.prog Tryd.f3 [] false w args ∧ laidMetH Tryd.prog Rows.modelKeepsRow.laid w) ∧ sizedMet enc Tryd.prog Tryd.f3 (OpenSpec.ofChange Rows.modelKeepsSpec) false w args)
      (Rows.modelKeepsSpec.post enc Tryd.prog Tryd.f3 false true false false) := by
  refine returnsInHanded_of_change_and (C := Tryd.checked) (X := fun w _ => laidMetH Tryd.prog Rows.modelKeepsRow.laid w) (fun _ _ _ hh h => h.of_heap hh) own started (by kernel_rfl) Tryd.func3
    (ChangeSpec.witness_shaped (enc := enc) (C := Tryd.checked) (os := os) (X := fun w _ => laidMetH Tryd.prog Rows.modelKeepsRow.laid w) false (World.laidAll Tryd.prog os Rows.modelKeepsRow.laid) #[.slice none 0 0, .agg #[.int .i64 0, .int .i64 0, .int .i64 0, .int .i64 0, .string ⟨#[]⟩, .slice none 0 0, .int .i64 0, .int .i64 0, .slice none 0 0, .slice none 0 0]] 8 (World.laidAll_os _ _ _)
      (World.shaped_of_ZipB (by kernel_rfl) (by kernel_rfl)) (by kernel_rfl) (by kernel_rfl) (by kernel_rfl)
      (by rw [MakeChecks.laidMetH_plain _ _ _ (by kernel_rfl)]; exact laidMet_laidAll _ (by kernel_rfl) (by kernel_rfl))) ?_
  intro W base args ds gs before hval0 hW _ hsz hL _
  have hval : ∀ (j : Nat) t v, Tryd.f3.params[j]? = some t → args[j]? = some v → Value.okWide Tryd.prog W .any base t v := hval0
  have hW' := hW
  obtain ⟨p, q, hA0, hV, rfl, _, _⟩ := hW
  have hA : DataW.TrodAll enc Tryd.prog W 0 (fun _ => true) true Tryd.f3.params.toList args.toList ds p := hA0
  rw [Tryd.params3] at hA hval
  obtain ⟨v0, v1, d0, d1, p0, p1, rfl, rfl, rfl, h0, h1⟩ := trodAll_two hA
  obtain ⟨rfl, rfl⟩ := trodVars_none hV
  obtain ⟨s, rfl, hs, hk, hnc, hc⟩ := Opens.oneS (Opens.slice Tryd.underlying22 Mdl.ev_opens (sz := 10) (by kernel_rfl)) Tryd.underlying22 (hval 0 _ v0 rfl rfl) h0
  obtain ⟨l, hl⟩ := Mdl.evL_of hs hk
  obtain ⟨o, rfl, x, ho⟩ := Opens.agg Mdl.ev_opens Tryd.underlying31 (hval 1 _ v1 rfl rfl) h1
  have hby : s.n * 136 ≤ reachBytes := sl_bytes Tryd.underlying22 (show Tryd.prog.bytesOf 31 = 136 by kernel_rfl) h0 fun el sp hd => sized_slice hsz (j := 0) (by rw [Tryd.params3]; rfl) (by rw [hd]; rfl) Tryd.underlying22
  rw [MakeChecks.laidMetH_plain _ _ _ (by kernel_rfl)] at hL
  have hT := Mdl.tabs_laid hL (by simp [Rows.modelKeepsRow, Rows.laid_unicode_utf8_first]) (by simp only [Rows.modelKeepsRow]; exact .head _) (by simp [Rows.modelKeepsRow, Rows.laid_strconv_isPrint16]) (by simp [Rows.modelKeepsRow, Rows.laid_strconv_isNotPrint16]) (by simp [Rows.modelKeepsRow, Rows.laid_strconv_isPrint32]) (by simp [Rows.modelKeepsRow, Rows.laid_strconv_isNotPrint32])
  refine ((Mdl.law_keeps hT hl (by unfold reachBytes at hby; simp [maxLen]; omega) (by unfold reachBytes at hby; omega) ho).out W (sees_heapOf W)).mono ?_
  rintro e W' ⟨v, H', rfl, hn, rfl, hs⟩
  exact ⟨_, rfl, law_post hW' laidOut rfl rfl Tryd.underlying4 (of_decide_eq_true (by kernel_rfl)) rfl hn hs⟩

theorem holds : Rows.ModelKeepsSaid :=
  OpenClaim.holds_of_wide 3 Tryd.f3 rfl rfl rfl rfl rfl rfl rfl ⟨rfl, rfl, rfl, rfl, rfl⟩ rfl rfl rfl rfl rfl (by kernel_rfl) Tryd.func3 (by kernel_rfl)
    (of_decide_eq_true (by kernel_rfl)) (by unfold Func.isWrapper; first | (rw [if_pos (by decide +kernel)]; kernel_rfl) | (rw [if_neg (by decide +kernel)]; exact ⟨rfl, rfl⟩))
    (fun os started H enc _ => lifted os started H enc)
theorem card_holds : Rows.ModelKeepsCardSaid :=
  Claim7.holds_tied_plain_at .later [] [.data, .pinned, .pinned, .pinned, .pinned, .pinned, .pinned] true (true, "2851caa287b869178a6ccb0b5665b650e4dee63b56eeb2691aa3fc603d4c8b45") false
    holds (fun _ h => by cases h) (by kernel_rfl) (fun _ h => by cases h) modelKeeps_row_tie rfl ⟨rfl, rfl⟩ (by kernel_rfl) rfl
    (fun f fn hf hfn => by
      obtain rfl : f = 3 := Option.some.inj ((show Tryd.prog.funcNamed "sherd/sherdlaw49.ModelKeeps" = some 3 by kernel_rfl).symm.trans hf) |>.symm
      obtain rfl : fn = Tryd.f3 := (Option.some.inj (Tryd.func3.symm.trans hfn)).symm
      exact ⟨by kernel_rfl, fun j t ht => by
        rw [Tryd.params3] at ht
        have hm : t ∈ [22, 31] := by simpa using Array.mem_of_getElem? ht
        have hall : ([22, 31].all fun u => !Tryd.prog.wantsStandIn u) = true := by kernel_rfl
        exact (show Tryd.prog.wantsStandIn t = false by simpa using List.all_eq_true.1 hall t hm)⟩)
    (by kernel_rfl)
#print axioms card_holds
end Go.Proofs.YtlhnepjidbofnaaDoor.MKeeps
