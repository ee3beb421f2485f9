/- The contracts of merging texts, and of the texts behind one. -/
import Derived.Test.YtllbdocjgdnofaaLabA
namespace Go.Lab
open Go.Vx Go.Vc Go.Proofs Go.Txt

theorem mapS : MapT Try.prog 78 (Value.string) (.int .i64 0) := ⟨9, 3, .string, by kernel_rfl, by kernel_rfl, by kernel_rfl, fun _ => trivial, fun a b h => by injection h⟩
abbrev vI (n : Int) : Value := .int .i64 n
theorem flat_str (l : List ByteArray) : l.flatMap sE = (l.map ofB).map (fun l : List UInt8 => Value.string ⟨l.toArray⟩) := by
  induction l with
  | nil => rfl
  | cons x xs ih =>
    rw [List.flatMap_cons, ih]
    cases x
    simp [strE, ofB]
theorem flat_back (l : List (List UInt8)) : l.map (fun l : List UInt8 => Value.string ⟨l.toArray⟩) = (l.map toB).flatMap sE := by
  rw [flat_str]
  rw [List.map_map, List.map_map]
  refine List.map_congr_left fun x _ => ?_
  simp [ofB, toB]
theorem nodup_snoc {α : Type} {l : List α} {x : α} (h : l.Nodup) (hx : x ∉ l) : (l ++ [x]).Nodup := by
  rw [List.nodup_append]
  exact ⟨h, by simp, fun a ha b hb => by simp at hb; rw [hb]; exact fun e => hx (e ▸ ha)⟩
/-- What the loop over the texts has, behind the first ones. -/
structure MSt (H F H' : PHeap) (k7 k9 gb : Nat) (done : List ByteArray) : Prop where
  sub : Sub F H'
  out : ∃ d oa n c o, Mp H' gb Value.string vI d ∧ Bx H' k7 78 [.map (some gb)] ∧ Bx H' k9 24 [.slice oa n c] ∧ OwnL H' 9 sE 1 oa n c o ∧ Off F oa ∧ (∀ a, oa = some a → a.block ≠ k7 ∧ a.block ≠ k9 ∧ a.block ≠ gb) ∧
    o.Nodup ∧ (∀ x, x ∈ o ↔ x ∈ done) ∧ o.length ≤ done.length ∧ (∀ x, (mlook d x).isSome = true ↔ x ∈ done) ∧ ∀ x v, mlook d x = some v → 1 ≤ v ∧ v ≤ done.length
theorem mlook_lay {κ ν : Type} [DecidableEq κ] (l : List (κ × ν)) (k : κ) (v : ν) (x : κ) : mlook (mlay l k v) x = if x = k then some v else mlook l x := by
  unfold mlay
  split
  · rename_i h
    induction l with
    | nil => simp [mlook] at h
    | cons y ys ih =>
      unfold mlook at *
      rw [List.map_cons, List.find?_cons, List.find?_cons]
      by_cases hy : y.1 = k
      · rw [if_pos hy]
        by_cases hx : x = k
        · subst hx; simp
        · have h1 : ¬ k = x := fun e => hx e.symm
          have h2 : ¬ y.1 = x := fun e => hx (e.symm.trans hy)
          simp only [h1, h2, decide_false, hx, if_false]
          by_cases hr : ((ys.find? fun z => decide (z.1 = k)).map (·.2)).isSome = true
          · have := ih hr; rw [if_neg hx] at this; exact this
          · -- no other entry of the key
            have hno : ∀ z ∈ ys, z.1 ≠ k := by
              intro z hz e
              apply hr
              rw [Option.isSome_map, List.find?_isSome]
              exact ⟨z, hz, by simp [e]⟩
            have : ys.map (fun z => if z.1 = k then (k, v) else z) = ys := by
              conv => rhs; rw [← List.map_id ys]
              refine List.map_congr_left fun z hz => ?_
              rw [if_neg (hno z hz)]; rfl
            rw [this]
      · rw [if_neg hy]
        rw [List.find?_cons, show decide (y.1 = k) = false by simp [hy]] at h
        have := ih h
        by_cases hx : y.1 = x
        · have : ¬ x = k := fun e => hy (hx.trans e)
          simp [hx, this]
        · simp only [hx, decide_false]
          exact this
  · rename_i h
    unfold mlook at *
    rw [List.find?_append]
    by_cases hx : x = k
    · subst hx
      have : l.find? (fun z => decide (z.1 = x)) = none := by
        cases hf : l.find? (fun z => decide (z.1 = x)) with
        | none => rfl
        | some z => rw [hf] at h; simp at h
      rw [this]
      simp
    · have : ¬ k = x := fun e => hx e.symm
      rw [if_neg hx]
      cases l.find? (fun z => decide (z.1 = x)) <;> simp [this]
theorem bx_gone {H H' : PHeap} {k : Nat} {t : TypeId} {l : List Value} (h : Bx H k t l) (hs : H' k = H k) : Bx H' k t l := by unfold Bx at *; rw [hs]; exact h
theorem merge_own {H : PHeap} {oa : Option Addr} {n c : Nat} {ps : List TT} (h : RdT H oa n ps) (hn : n ≤ 100000) (hps : ∀ p ∈ ps, p.n ≤ 100000) (hall : (allT ps).length ≤ 100000) :
    Triple Try.prog 32 #[.slice oa n c] H fun v H' => ∃ b m k R, v = .slice b m k ∧ RdL H' sE 1 b m R ∧ m ≤ k ∧ Rising R ∧ (∀ x, x ∈ R ↔ x ∈ allT ps) ∧ Sub H H' ∧ Off H b := by
  refine merge.vc oa n c H _ (makeMap_mp fun gb hgb => ⟨some gb, rfl, fun k7 hk7 => ?_⟩)
  have hk7g : k7 ≠ gb := fun e => by rw [e, upd_eq] at hk7; cases hk7
  have hk7H : H k7 = none := by rwa [Vx.upd_ne _ _ hk7g] at hk7
  have b7 : Bx ((H.upd gb (.map #[] 0)).upd k7 (.cells #[.map none] 78)) k7 78 [.map none] := Bx.new _ k7 _ _
  refine ⟨_, b7.writes [.map (some gb)] rfl, fun k9 hk9 => ?_⟩
  have b7' := Bx.new ((H.upd gb (.map #[] 0)).upd k7 (.cells #[.map none] 78)) k7 78 [.map (some gb)]
  have mp0 : Mp (((H.upd gb (.map #[] 0)).upd k7 (.cells #[.map none] 78)).upd k7 (.cells [Value.map (some gb)].toArray 78 (0, 0))) gb Value.string vI [] :=
    (Mp.new H gb _ _).mono fun o ho => by rw [Vx.upd_ne _ _ (fun e => hk7g e.symm), Vx.upd_ne _ _ (fun e => hk7g e.symm)]; exact ho
  have s1 : Sub H (((H.upd gb (.map #[] 0)).upd k7 (.cells #[.map none] 78)).upd k7 (.cells [Value.map (some gb)].toArray 78 (0, 0))) := Bx.sub_of ((Sub.upd _ hgb).trans (Sub.upd _ hk7)) hk7H
  generalize ((H.upd gb (.map #[] 0)).upd k7 (.cells #[.map none] 78)).upd k7 (.cells [Value.map (some gb)].toArray 78 (0, 0)) = H1 at *
  have hk97 : k9 ≠ k7 := fun e => by unfold Bx at b7'; rw [e, b7'] at hk9; cases hk9
  have hk9g : k9 ≠ gb := fun e => by obtain ⟨es, cl, g1, _⟩ := mp0.out; rw [e, g1] at hk9; cases hk9
  have hk9H : H k9 = none := by
    cases e : H k9 with
    | none => rfl
    | some o => rw [s1.le _ _ e] at hk9; cases hk9
  have s2 := Sub.upd (.cells #[.slice none 0 0] 24 (0, 0)) hk9
  have b9 := Bx.new H1 k9 24 [.slice none 0 0]
  have b72 := b7'.sub s2
  have mp2 := mp0.mono fun o ho => s2.le gb o ho
  have s12 := s1.trans s2
  generalize hH2 : H1.upd k9 (.cells #[.slice none 0 0] 24 (0, 0)) = H2 at *
  refine each.vc oa n c H2 _ fun k4 hk4 => ⟨_, rfl, ?_⟩
  have b4 := Bx.new H2 k4 22 [.slice oa n c]
  have hk4H : H k4 = none := by
    cases e : H k4 with
    | none => rfl
    | some o => rw [s12.le _ _ e] at hk4; cases hk4
  have hne7 : k4 ≠ k7 := fun e => by unfold Bx at b72; rw [e, b72] at hk4; cases hk4
  have hne9 : k4 ≠ k9 := fun e => by have := b9; unfold Bx at this; rw [← e, hk4] at this; cases this
  have hneg : k4 ≠ gb := fun e => by obtain ⟨es, cl, g1, _⟩ := mp2.out; rw [e, g1] at hk4; cases hk4
  have hF0 : Bx (H.upd k4 (.cells [Value.slice oa n c].toArray 22 (0, 0))) k4 22 [.slice oa n c] := Bx.new H k4 _ _
  have hHF : Sub H (H.upd k4 (.cells [Value.slice oa n c].toArray 22 (0, 0))) := Sub.upd _ hk4H
  have hF7 : (H.upd k4 (.cells [Value.slice oa n c].toArray 22 (0, 0))) k7 = none := by rw [Vx.upd_ne _ _ (fun e => hne7 e.symm)]; exact hk7H
  have hF9 : (H.upd k4 (.cells [Value.slice oa n c].toArray 22 (0, 0))) k9 = none := by rw [Vx.upd_ne _ _ (fun e => hne9 e.symm)]; exact hk9H
  have hFg : (H.upd k4 (.cells [Value.slice oa n c].toArray 22 (0, 0))) gb = none := by rw [Vx.upd_ne _ _ (fun e => hneg e.symm)]; exact hgb
  have hsubF : Sub (H.upd k4 (.cells [Value.slice oa n c].toArray 22 (0, 0))) (H2.upd k4 (.cells [Value.slice oa n c].toArray 22 (0, 0))) := ⟨fun q o hq => by
    by_cases e : q = k4
    · subst e; rw [upd_eq] at hq ⊢; exact hq
    · rw [Vx.upd_ne _ _ e] at hq ⊢; exact s12.le _ _ hq⟩
  generalize hFdef : H.upd k4 (.cells [Value.slice oa n c].toArray 22 (0, 0)) = F at *
  have s4 := Sub.upd (.cells [Value.slice oa n c].toArray 22 (0, 0)) hk4
  have hit := iter_ok (c := c) hF0 (h.mono hHF) hn hps
  have hlen : ((allT ps).map fun s => [Value.string s]).length = (allT ps).length := by simp
  refine ⟨(allT ps).map fun s => [Value.string s], fun i H' => MSt H F H' k7 k9 gb ((allT ps).take i), fun _ _ => False, F, hsubF, hit, ?_, fun i H' hM => hM.sub, ?_, ?_, ?_, trivial, trivial⟩
  · exact ⟨fun x hx => by obtain ⟨s, _, rfl⟩ := List.mem_map.1 hx; rfl⟩
  · refine ⟨hsubF, [], none, 0, 0, [], mp2.mono fun o ho => s4.le _ _ ho, b72.sub s4, ?_, Owns.nil _ _ 1, Off.none _, fun _ e => (by cases e), List.nodup_nil, by simp, by simp, by simp [mlook], by simp [mlook]⟩
    exact b9.sub s4
  · intro s i H5 hnth hM
    obtain ⟨d, ob, m, q, o, h1, h2, h3, h4, h5, h6, h7, h8, h9, h10, h11⟩ := hM.out
    have hs : (allT ps)[i]? = some s := by
      have := hnth.out
      rw [List.getElem?_map] at this
      cases hx : (allT ps)[i]? with
      | none => rw [hx] at this; cases this
      | some y => rw [hx] at this; simp at this; rw [this]
    have hi : i < (allT ps).length := (List.getElem?_eq_some_iff.1 hs).1
    have htk : (allT ps).take (i + 1) = (allT ps).take i ++ [s] := by rw [List.take_add_one, hs]; rfl
    have hdl : ((allT ps).take i).length = i := by rw [List.length_take]; omega
    rw [hdl] at h9 h11
    have hv0 : 0 ≤ (mlook d s).getD 0 ∧ (mlook d s).getD 0 ≤ i ∧ ((mlook d s).getD 0 = 0 ↔ s ∉ (allT ps).take i) := by
      cases hl : mlook d s with
      | none =>
        have : s ∉ (allT ps).take i := fun hm => by have := (h10 s).2 hm; rw [hl] at this; cases this
        simp [this]
      | some v =>
        have h12 := h11 s v hl
        have : s ∈ (allT ps).take i := (h10 s).1 (by rw [hl]; rfl)
        simp only [Option.getD_some]
        exact ⟨by omega, by omega, fun e => by omega, fun e => absurd this e⟩
    have hgd : ∀ x : Option Int, (x.map vI).getD (.int .i64 0) = vI (x.getD 0) := fun x => by cases x <;> rfl
    refine ⟨some gb, h2.reads, map_get mapS h1 ?_⟩
    rw [if_neg (by simp), hgd]
    have ew : IntKind.i64.wrap ((mlook d s).getD 0 + 1) = (mlook d s).getD 0 + 1 := wrap64 (by omega) (by omega)
    refine ⟨_, rfl, ?_⟩
    rw [ew]
    refine map_put (vE := vI) (v := (mlook d s).getD 0 + 1) mapS h1 fun o' hmp => ?_
    have h2' := h2.upd_ne o' hk7g
    have h3' := h3.upd_ne o' hk9g
    have h4' : OwnL (H5.upd gb o') 9 sE 1 ob m q o := Owns.mono h4 fun a x ha hx => by rw [Vx.upd_ne _ _ (h6 a ha).2.2]; exact hx
    have hs5 : Sub F (H5.upd gb o') := Bx.sub_of hM.sub hFg
    generalize H5.upd gb o' = H6 at *
    have hd10 : ∀ x, (mlook (mlay d s ((mlook d s).getD 0 + 1)) x).isSome = true ↔ x ∈ (allT ps).take (i + 1) := fun x => by
      rw [mlook_lay, htk, List.mem_append, ← h10 x]
      split
      · rename_i e; simp [e]
      · rename_i e; simp [e]
    have hd11 : ∀ x v, mlook (mlay d s ((mlook d s).getD 0 + 1)) x = some v → 1 ≤ v ∧ v ≤ ((allT ps).take (i + 1)).length := fun x v hx => by
      rw [mlook_lay] at hx
      rw [htk, List.length_append, hdl, List.length_singleton]
      split at hx
      · injection hx with hx; omega
      · have := h11 x v hx; omega
    refine ⟨some gb, h2'.reads, map_get mapS hmp ?_⟩
    rw [if_neg (by simp), hgd, mlook_lay, if_pos rfl, Option.getD_some]
    refine ⟨_, rfl, fun h1v => ?_, fun h1v => ?_⟩
    · have hnew : s ∉ (allT ps).take i := hv0.2.2.1 (by have : (mlook d s).getD 0 + 1 = 1 := by simpa using h1v
                                                        omega)
      have hom : o.length = m := (h4'.rd (E := sE) (sz := 1) (by omega) sLen).len
      refine ⟨ob, m, q, h3'.reads, fun k3 hk3 => ?_⟩
      refine append_one tStr hk3 (E := sE) (x := s) sLen h4' rfl (sOne s) (by simp [maxLen]; omega) (by omega) ?_
      intro b2 q2 H7 g7 hf7 hfr7 _
      have h2'' := h2'.frame hf7 fun a ha e => (h6 a ha).1 e.symm
      have h3'' := h3'.frame hf7 fun a ha e => (h6 a ha).2.1 e.symm
      have hmp7 : Mp H7 gb Value.string vI (mlay d s ((mlook d s).getD 0 + 1)) := hmp.mono fun x hx => hf7 gb x hx fun a ha e => (h6 a ha).2.2 e.symm
      have hbl : ∀ a, b2 = some a → a.block ≠ k7 ∧ a.block ≠ k9 ∧ a.block ≠ gb := by
        intro a ha
        rcases hfr7 a ha with ⟨a', ha', e⟩ | hno
        · rw [← e]; exact h6 a' ha'
        · refine ⟨fun e => ?_, fun e => ?_, fun e => ?_⟩
          · have := h2'; unfold Bx at this; rw [← e, hno] at this; cases this
          · have := h3'; unfold Bx at this; rw [← e, hno] at this; cases this
          · obtain ⟨es, cl, g1, _⟩ := hmp.out; rw [← e, hno] at g1; cases g1
      refine ⟨b2, m + 1, q2, rfl, _, h3''.writes [.slice b2 (m + 1) q2] rfl, Bx.sub_of (hf7.sub hs5 h5) hF9, mlay d s ((mlook d s).getD 0 + 1), b2, m + 1, q2, o ++ [s], hmp7.mono fun x hx => by rw [Vx.upd_ne _ _ (fun e => hk9g e.symm)]; exact hx, h2''.upd_ne _ (fun e => hk97 e.symm), Bx.new _ k9 _ _, Owns.mono g7 fun a x ha hx => by rw [Vx.upd_ne _ _ (hbl a ha).2.1]; exact hx, hfr7.off hs5 h5, hbl, nodup_snoc h7 (fun hm => hnew ((h8 s).1 hm)), fun x => ?_, ?_, hd10, hd11⟩
      · rw [htk, List.mem_append, List.mem_append, h8]
      · rw [htk, List.length_append, List.length_append, hdl]; simp; omega
    · have hold : s ∈ (allT ps).take i := Classical.byContradiction fun hno => by
        have := hv0.2.2.2 hno
        rw [this] at h1v
        simp at h1v
      refine ⟨hs5, _, ob, m, q, o, hmp, h2', h3', h4', h5, h6, h7, fun x => ?_, ?_, hd10, hd11⟩
      · rw [htk, List.mem_append, h8]
        constructor
        · exact .inl
        · rintro (hx | hx)
          · exact hx
          · simp at hx; rw [hx]; exact hold
      · rw [htk, List.length_append, hdl]; omega
  · intro H5 hM
    rw [hlen, List.take_of_length_le (Nat.le_refl _)] at hM
    obtain ⟨d, ob, m, q, o, h1, h2, h3, h4, h5, h6, h7, h8, h9, h10, h11⟩ := hM.out
    have hom : o.length = m := (h4.rd (E := sE) (sz := 1) (by omega) sLen).len
    refine ⟨ob, m, q, h3.reads, ?_⟩
    have h4' : Owns H5 9 1 ob m q ((o.map ofB).map (fun l : List UInt8 => Value.string ⟨l.toArray⟩)) := by rw [← flat_str]; exact h4
    refine (sort_ok sortS h4' (by omega)).mono ?_
    rintro _ H6 ⟨rfl, g6, hf6⟩
    rw [flat_back] at g6
    have hR := sorted_rising h7
    exact ⟨rfl, ob, m, q, (h3.frame hf6 fun a ha e => (h6 a ha).2.1 e.symm).reads, ob, m, q, _, rfl, Owns.rd (E := sE) (sz := 1) (by omega) sLen g6, h4.le, hR.1, fun x => (hR.2 x).trans (h8 x), hHF.trans (hf6.sub hM.sub h5), fun a ha => by
      have := h5 a ha
      cases hh : H a.block with
      | none => rfl
      | some o => rw [hHF.le _ _ hh] at this; cases this⟩
theorem merge_ok {H : PHeap} {oa : Option Addr} {n c : Nat} {ps : List TT} (h : RdT H oa n ps) (hn : n ≤ 100000) (hps : ∀ p ∈ ps, p.n ≤ 100000) (hall : (allT ps).length ≤ 100000) :
    Triple Try.prog 32 #[.slice oa n c] H fun v H' => ∃ b m k R, v = .slice b m k ∧ RdL H' sE 1 b m R ∧ m ≤ k ∧ Rising R ∧ (∀ x, x ∈ R ↔ x ∈ allT ps) ∧ Sub H H' := by
  refine (merge_own h hn hps hall).mono ?_
  rintro v H' ⟨b, m, k, R, h1, h2, h3, h4, h5, h6, _⟩
  exact ⟨b, m, k, R, h1, h2, h3, h4, h5, h6⟩
end Go.Lab
