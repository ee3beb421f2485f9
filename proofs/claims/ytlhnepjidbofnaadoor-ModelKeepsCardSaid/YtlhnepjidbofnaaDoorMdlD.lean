/- All possibilities that come of some: the contract. -/
import Derived.Test.YtlhnepjidbofnaaDoorMdlC
namespace Go.Mdl
open Go.Vx Go.Vc Go.Proofs

theorem mapS : MapT Tryd.prog 56 (Value.string) (.int .i64 0) := ⟨9, 3, .string, by kernel_rfl, by kernel_rfl, by kernel_rfl, fun _ => trivial, fun a b h => by injection h⟩
theorem tCh : ElemT Tryd.prog 57 62 3 48 := .of (by kernel_rfl)
theorem mlook_lay {κ ν : Type} [DecidableEq κ] (l : List (κ × ν)) (k : κ) (v : ν) (x : κ) : mlook (mlay l k v) x = if x = k then some v else mlook l x := by
  unfold mlay
  split
  · rename_i h
    induction l with
    | nil => simp [mlook] at h
    | cons y ys ih =>
      unfold mlook at *
      rw [List.map_cons, List.find?_cons, List.find?_cons]
      by_cases hy : y.1 = k
      · rw [if_pos hy]
        by_cases hx : x = k
        · subst hx; simp
        · have h1 : ¬ k = x := fun e => hx e.symm
          have h2 : ¬ y.1 = x := fun e => hx (e.symm.trans hy)
          simp only [h1, h2, decide_false, hx, if_false]
          by_cases hr : ((ys.find? fun z => decide (z.1 = k)).map (·.2)).isSome = true
          · have := ih hr; rw [if_neg hx] at this; exact this
          · -- no other entry of the key
            have hno : ∀ z ∈ ys, z.1 ≠ k := by
              intro z hz e
              apply hr
              rw [Option.isSome_map, List.find?_isSome]
              exact ⟨z, hz, by simp [e]⟩
            have : ys.map (fun z => if z.1 = k then (k, v) else z) = ys := by
              conv => rhs; rw [← List.map_id ys]
              refine List.map_congr_left fun z hz => ?_
              rw [if_neg (hno z hz)]; rfl
            rw [this]
      · rw [if_neg hy]
        rw [List.find?_cons, show decide (y.1 = k) = false by simp [hy]] at h
        have := ih h
        by_cases hx : y.1 = x
        · have : ¬ x = k := fun e => hy (hx.trans e)
          simp [hx, this]
        · simp only [hx, decide_false]
          exact this
  · rename_i h
    unfold mlook at *
    rw [List.find?_append]
    by_cases hx : x = k
    · subst hx
      have : l.find? (fun z => decide (z.1 = x)) = none := by
        cases hf : l.find? (fun z => decide (z.1 = x)) with
        | none => rfl
        | some z => rw [hf] at h; simp at h
      rw [this]
      simp
    · have : ¬ k = x := fun e => hx e.symm
      rw [if_neg hx]
      cases l.find? (fun z => decide (z.1 = x)) <;> simp [this]

def S (T : Lib.PrintTabs) (x : Ch) : ByteArray := strOfNums (txt T x)
theorem txt_range (T : Lib.PrintTabs) (x : Ch) : ∀ y ∈ txt T x, 0 ≤ y ∧ y ≤ 255 := fun y hy => by
  rcases List.mem_append.1 hy with h | h
  · exact bT_range T _ _ y h
  · obtain ⟨f, _, h⟩ := List.mem_flatMap.1 h
    exact bT_range T f.1 f.2 y h
theorem S_inj (T : Lib.PrintTabs) {x y : Ch} (h : S T x = S T y) : x = y := by
  have : bytesL (S T x) = bytesL (S T y) := by rw [h]
  unfold S at this
  rw [bytes_strOf (txt_range T x), bytes_strOf (txt_range T y)] at this
  exact txt_inj T this
/-- Two lists that tell one another. -/
def Rel (H : PHeap) (vs : List Cv) (xs : List Ch) : Prop := vs.length = xs.length ∧ ∀ (i : Nat) (v : Cv) (x : Ch), vs[i]? = some v → xs[i]? = some x → ChR H v x
theorem Rel.mono {H H' : PHeap} {vs : List Cv} {xs : List Ch} (hs : Sub H H') (h : Rel H vs xs) : Rel H' vs xs := ⟨h.1, fun i v x a b => (h.2 i v x a b).mono hs⟩
theorem Rel.keep {H H' : PHeap} {vs : List Cv} {xs : List Ch} (hs : FlK H H') (h : Rel H vs xs) : Rel H' vs xs := ⟨h.1, fun i v x a b => (h.2 i v x a b).keep hs⟩
theorem Rel.get {H : PHeap} {vs : List Cv} {xs : List Ch} (h : Rel H vs xs) {i : Nat} {v : Cv} (hv : vs[i]? = some v) : ∃ x, xs[i]? = some x ∧ ChR H v x := by
  have hi : i < xs.length := by rw [← h.1]; exact (List.getElem?_eq_some_iff.1 hv).1
  exact ⟨xs[i], List.getElem?_eq_getElem hi, h.2 i v _ hv (List.getElem?_eq_getElem hi)⟩
theorem Rel.add {H : PHeap} {vs : List Cv} {xs : List Ch} (h : Rel H vs xs) {v : Cv} {x : Ch} (hx : ChR H v x) : Rel H (vs ++ [v]) (xs ++ [x]) := by
  refine ⟨by simp [h.1], fun i u y hu hy => ?_⟩
  by_cases hi : i < vs.length
  · rw [List.getElem?_append_left hi] at hu
    rw [List.getElem?_append_left (by rw [← h.1]; exact hi)] at hy
    exact h.2 i u y hu hy
  · rw [List.getElem?_append_right (by omega)] at hu
    rw [List.getElem?_append_right (by rw [← h.1]; omega)] at hy
    have h1 := (List.getElem?_eq_some_iff.1 hu).1
    have h2 := h.1
    simp only [List.length_cons, List.length_nil] at h1
    have e : i = vs.length := by omega
    subst e
    rw [h2] at hy
    simp at hu hy
    subst hu hy
    exact hx
/-- What is met, and what is out. -/
structure Met (T : Lib.PrintTabs) (F H : PHeap) (k7 k9 : Nat) (ys : List Ch) (K : Nat) : Prop where
  sub : Sub F H
  o7 : F k7 = none
  o9 : F k9 = none
  nd : ys.Nodup
  row : ∃ mb oa n c vs ml, F mb = none ∧ Off F oa ∧ Bx H k7 56 [.map (some mb)] ∧ Mp H mb Value.string (Value.int .i64) ml ∧ Bx H k9 57 [.slice oa n c] ∧ OwnL H 62 cE 3 oa n c vs ∧
    Rel H vs ys ∧ (∀ x, x ∈ ys ↔ (mlook ml (S T x)).isSome) ∧ ∀ t v, mlook ml t = some v → 1 ≤ v ∧ v ≤ K
theorem Met.mono {T : Lib.PrintTabs} {F H H' : PHeap} {k7 k9 : Nat} {ys : List Ch} {K : Nat} (h : Met T F H k7 k9 ys K) (hs : Sub H H') : Met T F H' k7 k9 ys K := by
  obtain ⟨mb, oa, n, c, vs, ml, h1, h2, h3, h4, h5, h6, h7, h8, h9⟩ := h.row
  exact ⟨h.sub.trans hs, h.o7, h.o9, h.nd, mb, oa, n, c, vs, ml, h1, h2, h3.sub hs, h4.mono fun o ho => hs.le _ _ ho, h5.sub hs, h6.mono fun a o _ ho => hs.le _ _ ho, h7.mono hs, h8, h9⟩
theorem Met.le {T : Lib.PrintTabs} {F H : PHeap} {k7 k9 : Nat} {ys : List Ch} {K K' : Nat} (h : Met T F H k7 k9 ys K) (hk : K ≤ K') : Met T F H k7 k9 ys K' := by
  obtain ⟨mb, oa, n, c, vs, ml, h1, h2, h3, h4, h5, h6, h7, h8, h9⟩ := h.row
  exact ⟨h.sub, h.o7, h.o9, h.nd, mb, oa, n, c, vs, ml, h1, h2, h3, h4, h5, h6, h7, h8, fun t v hv => ⟨(h9 t v hv).1, by have := (h9 t v hv).2; omega⟩⟩
abbrev addN (ys : List Ch) (z : Ch) [Decidable (z ∈ ys)] : List Ch := if z ∈ ys then ys else ys ++ [z]
open Classical in
/-- One possibility is looked at. -/
theorem visit {T : Lib.PrintTabs} {F H : PHeap} (hT : Tabs F T) {k7 k9 kc : Nat} {ys : List Ch} {K : Nat} (h : Met T F H k7 k9 ys K) {v : Cv} {z : Ch} (hz : ChR H v z) (hok : okC z) (hc : Bx H kc 62 (cE v)) (hK : K ≤ 100000) (hlen : ys.length ≤ 100000)
    {Q : PHeap → Prop} (hQ : ∀ H', Met T F H' k7 k9 (addN ys z) (K + 1) → Q H') :
    ∃ H21, Vx.Sub H21 H ∧ ∃ a22, Reads H21 (at0 k7) [Value.map a22] ∧ ∃ b23 s24 a25 k26 k27, Reads H21 (at0 kc) [Value.bool b23, Value.string s24, Value.slice a25 k26 k27] ∧
      Triple Tryd.prog 31 #[Value.agg #[Value.bool b23, Value.string s24, Value.slice a25 k26 k27]] H fun v28 H29 => ∃ s30, v28 = Value.string s30 ∧ Vx.Sub H21 H29 ∧
        LookV Tryd.prog (Instr.lookup 56 (Value.map a22) (Value.string s30) false) H21 fun v31 => ∃ n32, v31 = Value.int IntKind.i64 n32 ∧
          EvU Tryd.prog (Instr.mapUpdate 56 (Value.map a22) (Value.string s30) (Value.int IntKind.i64 (IntKind.i64.wrap (n32 + 1)))) H29 fun H33 =>
            ∃ H34, Vx.Sub H34 H33 ∧ ∃ a35, Reads H34 (at0 k7) [Value.map a35] ∧ ∃ b36 s37 a38 k39 k40, Reads H34 (at0 kc) [Value.bool b36, Value.string s37, Value.slice a38 k39 k40] ∧
              Triple Tryd.prog 31 #[Value.agg #[Value.bool b36, Value.string s37, Value.slice a38 k39 k40]] H33 fun v41 H42 => ∃ s43, v41 = Value.string s43 ∧ Vx.Sub H34 H42 ∧
                LookV Tryd.prog (Instr.lookup 56 (Value.map a35) (Value.string s43) false) H34 fun v44 => ∃ n45, v44 = Value.int IntKind.i64 n45 ∧
                  ((n45 == 1) = true → ∃ a46 k47 k48, Reads H42 (at0 k9) [Value.slice a46 k47 k48] ∧ ∃ b49 s50 a51 k52 k53, Reads H42 (at0 kc) [Value.bool b49, Value.string s50, Value.slice a51 k52 k53] ∧
                    ∀ (k54 : Nat), H42 k54 = none → EvV Tryd.prog (Builtin.append_ #[57, 57] 57 #[Value.slice a46 k47 k48, Value.slice (at0 k54) 1 1]) (H42.upd k54 (Obj.cells #[Value.bool b49, Value.string s50, Value.slice a51 k52 k53] 62)) fun v55 H56 =>
                      ∃ a57 k58 k59, v55 = Value.slice a57 k58 k59 ∧ ∃ H60, Writes H56 H60 (at0 k9) [Value.slice a57 k58 k59] ∧ Q H60) ∧
                  ((n45 == 1) = false → Q H42) := by
  obtain ⟨mb, oa, n, c, vs, ml, h1, h2, h3, h4, h5, h6, h7, h8, h9⟩ := h.row
  obtain ⟨p, d, a, m, q⟩ := v
  have hT' := hT.mono h.sub
  refine ⟨H, Sub.refl H, some mb, h3.reads, p, d, a, m, q, hc.reads, (text_ok hT' hz hok).mono ?_⟩
  rintro _ H29 ⟨rfl, hH⟩
  rw [hH]
  have hgd : ((mlook ml (S T z)).map (Value.int .i64)).getD (.int .i64 0) = .int .i64 ((mlook ml (S T z)).getD 0) := by cases mlook ml (S T z) <;> rfl
  have hcnt : 0 ≤ (mlook ml (S T z)).getD 0 ∧ (mlook ml (S T z)).getD 0 ≤ K := by
    cases hm : mlook ml (S T z) with
    | none => exact ⟨Int.le_refl _, by simp⟩
    | some w => have := h9 _ _ hm; exact ⟨by simp only [Option.getD_some]; omega, by simp only [Option.getD_some]; omega⟩
  refine ⟨_, rfl, Sub.refl _, map_get mapS h4 ⟨(mlook ml (S T z)).getD 0, by rw [if_neg (by simp)]; exact hgd, ?_⟩⟩
  rw [wrap64 (by omega) (by omega)]
  refine map_put mapS h4 fun o hmp => ?_
  -- the map alone has turned
  have bne : ∀ {b : Nat} {t : TypeId} {l : List Value}, Bx H b t l → b ≠ mb := fun {b t l} hb e => by
    obtain ⟨es, ck, g1, _⟩ := h4.out
    unfold Bx at hb
    rw [e, g1] at hb; cases hb
  have hv3 := h3.upd_ne o (bne h3)
  have hv5 := h5.upd_ne o (bne h5)
  have hcc := hc.upd_ne o (bne hc)
  have hsF : Sub F (H.upd mb o) := Bx.sub_of h.sub h1
  have hob : ∀ a, oa = some a → a.block ≠ mb := fun a ha e => by
    obtain ⟨es, ck, g1, _⟩ := h4.out
    rcases h6.row with ⟨e1, _⟩ | ⟨g, cur, e1, hg, _⟩
    · rw [e1] at ha; cases ha
    · rw [e1] at ha; cases ha
      simp only at e
      rw [e, g1] at hg; cases hg
  have h6' : OwnL (H.upd mb o) 62 cE 3 oa n c vs := Owns.mono h6 fun a o' ha hk => by rw [upd_ne _ _ (hob a ha)]; exact hk
  have hmf : FlK H (H.upd mb o) := .upd fun c r hk => by
    obtain ⟨es, ck, g1, _⟩ := h4.out
    rw [g1] at hk; cases hk
  have hz' := hz.keep hmf
  have hrel' := h7.keep hmf
  refine ⟨_, Sub.refl _, some mb, hv3.reads, p, d, a, m, q, hcc.reads, (text_ok (hT.mono hsF) hz' hok).mono ?_⟩
  rintro _ H42 ⟨rfl, hH2⟩
  rw [hH2]
  have hlk : ∀ x, mlook (mlay ml (S T z) ((mlook ml (S T z)).getD 0 + 1)) (S T x) = if x = z then some ((mlook ml (S T z)).getD 0 + 1) else mlook ml (S T x) := fun x => by
    rw [mlook_lay]
    by_cases e : x = z
    · rw [if_pos e, if_pos (by rw [e])]
    · rw [if_neg e, if_neg fun e1 => e (S_inj T e1)]
  have hall : ∀ t v, mlook (mlay ml (S T z) ((mlook ml (S T z)).getD 0 + 1)) t = some v → 1 ≤ v ∧ v ≤ ((K + 1 : Nat) : Int) := fun t v hv => by
    rw [mlook_lay] at hv
    split at hv
    · cases hv; omega
    · have := h9 t v hv; omega
  refine ⟨_, rfl, Sub.refl _, map_get mapS hmp ⟨(mlook ml (S T z)).getD 0 + 1, ?_, fun e => ?_, fun e => ?_⟩⟩
  · rw [if_neg (by simp)]
    have := hlk z
    rw [if_pos rfl] at this
    unfold S at this ⊢
    rw [this]; rfl
  · -- it is new
    have e0 : (mlook ml (S T z)).getD 0 = 0 := by simp at e; omega
    have hno : z ∉ ys := fun hm => by
      have h1 := (h8 z).1 hm
      obtain ⟨w, hw⟩ := Option.isSome_iff_exists.1 h1
      have := h9 _ _ hw
      rw [hw] at e0; simp at e0; omega
    refine ⟨oa, n, c, hv5.reads, p, d, a, m, q, hcc.reads, fun k54 hk => ?_⟩
    have hlv := (h6'.rd (E := cE) (sz := 3) (by omega) cLen).len
    refine append_one tCh (E := cE) (x := ⟨p, d, a, m, q⟩) hk cLen h6' rfl (cOne _) (by have := h7.1; simp [maxLen]; omega) (by have := h7.1; omega) ?_
    intro oa' c' H' how hf hfr _
    -- where things lie, told by what they hold
    have hrow : ∀ {b : Nat} {o' : Obj}, (H.upd mb o) b = some o' → (∀ c, o' ≠ .cells c 62 (0, 0)) → ∀ a', oa = some a' → a'.block ≠ b := fun {b o'} hb hn a' ha e => by
      rcases h6'.row with ⟨e1, _⟩ | ⟨g, cur, e1, hg, _⟩
      · rw [e1] at ha; cases ha
      · rw [e1] at ha; cases ha
        simp only at e
        rw [e, hb] at hg; cases hg; exact hn _ rfl
    have n5 := hrow hv5 (fun c e => by injection e with _ e _; cases e)
    have n3 := hrow hv3 (fun c e => by injection e with _ e _; cases e)
    obtain ⟨es, ck, g1, g2⟩ := hmp.out
    have nm := hrow g1 (fun c e => by cases e)
    have hb9 := hf.bx hv5 n5
    have hb7 := hf.bx hv3 n3
    have hm' := hf _ _ g1 fun a' ha e => nm a' ha e.symm
    have n9 := hfr.ne hv5 n5
    have k97 : k7 ≠ k9 := fun e => by unfold Bx at hv3 hv5; rw [e, hv5] at hv3; injection hv3 with e; injection e with _ e _; cases e
    have km9 : mb ≠ k9 := fun e => by unfold Bx at hv5; rw [← e, g1] at hv5; cases hv5
    refine ⟨oa', n + 1, c', rfl, _, hb9.writes [.slice oa' (n + 1) c'] rfl, hQ _ ?_⟩
    have hk1 : FlK (H.upd mb o) H' := FlK.frame hf fun a' ha c r hk => by
      rcases h6'.row with ⟨e1, _⟩ | ⟨g, cur, e1, hg, _⟩
      · rw [e1] at ha; cases ha
      · rw [e1] at ha; cases ha
        simp only at hk
        rw [hg] at hk; injection hk with e; injection e with _ e _; cases e
    have hk2 : FlK H' (H'.upd k9 (.cells [Value.slice oa' (n + 1) c'].toArray 57 (0, 0))) := .upd fun c r hk => by
      unfold Bx at hb9; rw [hb9] at hk; injection hk with e; injection e with _ e _; cases e
    have hkk := hk1.trans hk2
    unfold addN
    rw [if_neg hno]
    refine ⟨Bx.sub_of (hf.sub hsF h2) h.o9, h.o7, h.o9, List.nodup_append.2 ⟨h.nd, by simp, fun a1 ha1 b1 hb1 e1 => ?_⟩, mb, oa', n + 1, c', vs ++ [⟨p, d, a, m, q⟩], _, h1, hfr.off hsF h2, hb7.upd_ne _ k97, ⟨es, ck, ?_, g2⟩, Bx.new .., Owns.mono how fun a' o' ha hk => ?_, (hrel'.keep hkk).add (hz'.keep hkk), fun x => ?_, hall⟩
    · simp at hb1; rw [e1, hb1] at ha1; exact hno ha1
    · rw [upd_ne _ _ km9]; exact hm'
    · rw [upd_ne _ _ (n9 a' ha)]; exact hk
    · show x ∈ ys ++ [z] ↔ (mlook (mlay ml (S T z) _) (S T x)).isSome
      rw [hlk]
      by_cases e1 : x = z
      · subst e1; simp
      · rw [if_neg e1, List.mem_append]; simp only [List.mem_cons, List.not_mem_nil, or_false, e1]; exact h8 x
  · refine hQ _ ?_
    have hin : z ∈ ys := Classical.byContradiction fun hno => by
      have : mlook ml (S T z) = none := by
        cases hm : mlook ml (S T z) with
        | none => rfl
        | some w => exact absurd ((h8 z).2 (by rw [hm]; rfl)) hno
      rw [this] at e; simp at e
    unfold addN
    rw [if_pos hin]
    refine ⟨hsF, h.o7, h.o9, h.nd, mb, oa, n, c, vs, _, h1, h2, hv3, hmp, hv5, h6', hrel', fun x => ?_, hall⟩
    show x ∈ ys ↔ (mlook (mlay ml (S T z) _) (S T x)).isSome
    rw [hlk]
    by_cases e1 : x = z
    · subst e1; simp [hin]
    · rw [if_neg e1]; exact h8 x
end Go.Mdl
