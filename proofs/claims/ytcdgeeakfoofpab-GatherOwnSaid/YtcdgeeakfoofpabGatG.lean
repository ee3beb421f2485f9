/- The laws of gathering return true. -/
import Derived.Test.YtcdgeeakfoofpabGatF
import Derived.Test.YtcdgeeakfoofpabVcGatO
import Derived.Test.YtcdgeeakfoofpabVcGatL
namespace Go.Gat
open Go.Vx Go.Vc Go.Proofs Go.Pak

/-! ### Both say the same -/
def cont (l : List (Int × BS)) : List (Int × List Int) := l.map fun x => (x.1, x.2.l)
theorem mlook_cont (l : List (Int × BS)) (i : Int) : mlook (cont l) i = (mlook l i).map (·.l) := by
  unfold mlook cont
  rw [List.find?_map]
  simp only [Option.map_map, Function.comp_def]
theorem cont_keys (l : List (Int × BS)) : (cont l).map (·.1) = l.map (·.1) := by simp [cont, Function.comp_def]
/-- The map's entries are the reference's. -/
structure Rel (got P : List (Int × BS)) : Prop where
  nd : (got.map (·.1)).Nodup
  rise : Rising P
  perm : (cont got).Perm (cont P)
section
variable {got P : List (Int × BS)}
theorem Rel.look (h : Rel got P) (i : Int) : (mlook got i).map (·.l) = (mlook P i).map (·.l) := by
  rw [← mlook_cont, ← mlook_cont]
  have n1 : ((cont got).map (·.1)).Nodup := by rw [cont_keys]; exact h.nd
  have n2 : ((cont P).map (·.1)).Nodup := by rw [cont_keys]; exact h.rise.nodup
  cases e : mlook (cont got) i with
  | some v => rw [eq_comm, mlook_iff n2, ← h.perm.mem_iff]; exact mlook_mem e
  | none =>
    cases e2 : mlook (cont P) i with
    | none => rfl
    | some v =>
      have := mlook_of n1 (h.perm.mem_iff.2 (mlook_mem e2))
      rw [e] at this; cases this
theorem Rel.some (h : Rel got P) (i : Int) : (mlook got i).isSome = (mlook P i).isSome := by
  have := congrArg Option.isSome (h.look i)
  simpa using this
theorem getD_l (o : Option BS) : (o.getD s0).l = (o.map (·.l)).getD [] := by cases o <;> rfl
theorem Rel.textsEq (h : Rel got P) (who : List Int) : texts who got = texts who P := by
  unfold texts
  refine List.map_congr_left fun i _ => ?_
  rw [getD_l, getD_l, h.look]
theorem Rel.done (h : Rel got P) (kn : Bool) (who : List Int) : doneB kn who got = doneB kn who P := by
  unfold doneB
  congr 1
  refine List.all_congr rfl fun i => h.some i
theorem Rel.cont (h : Rel got P) {K : List Int} (hK : GotL got K) : contAt got K = P.map fun x => (x.1, x.2.l) := by
  have e : K = P.map (·.1) := by
    refine List.Perm.eq_of_pairwise (le := fun a b : Int => a ≤ b) (fun a b _ _ h1 h2 => by omega) hK.rise ?_ (hK.perm.trans ?_)
    · rw [List.pairwise_map]; exact h.rise.imp fun h => by omega
    · have := h.perm.map (·.1)
      rwa [cont_keys, cont_keys] at this
  rw [e]
  unfold contAt
  rw [List.map_map]
  refine List.map_congr_left fun x hx => ?_
  simp only [Function.comp]
  rw [getD_l, h.look, mlook_of h.rise.nodup hx]
  rfl
theorem Rel.nil : Rel [] [] := ⟨by simp, List.Pairwise.nil, List.Perm.refl _⟩
theorem Rel.len (h : Rel got P) : P.length = got.length := by
  have := h.perm.length_eq
  simpa [Gat.cont] using this.symm
theorem Rel.ins {i : Int} {s t : BS} {P' : List (Int × BS)} (h : Rel got P) (hno : mlook got i = none) (hs : s.l = t.l) (hI : Ins P (i, t) P') : Rel (got ++ [(i, s)]) P' := by
  have hno2 : mlook P i = none := by
    have := h.some i
    rw [hno] at this
    simpa using this.symm
  refine ⟨?_, hI.rise h.rise hno2, ?_⟩
  · rw [List.map_append, List.nodup_append]
    refine ⟨h.nd, by simp, fun a ha b hb => ?_⟩
    simp at hb
    rw [hb]
    obtain ⟨x, hx, rfl⟩ := List.mem_map.1 ha
    exact mlook_none.1 hno x hx
  · have h1 := hI.perm.map fun x : Int × BS => (x.1, x.2.l)
    rw [List.map_append] at h1
    unfold Gat.cont
    rw [List.map_append]
    refine (h.perm.append_right _).trans ?_
    refine List.Perm.trans ?_ h1.symm
    rw [Gat.cont]
    simp [hs]
end

/-! ### The document's example -/
theorem mlook_one (k : Int) (s : BS) (i : Int) : mlook [(k, s)] i = if k = i then some s else none := by
  by_cases h : k = i <;> simp [mlook, h]
theorem mlook_two (k k2 : Int) (s t : BS) (i : Int) : mlook [(k, s), (k2, t)] i = if k = i then some s else if k2 = i then some t else none := by
  by_cases h : k = i <;> by_cases h2 : k2 = i <;> simp [mlook, List.find?, h, h2]
theorem alive_ok (H : PHeap) : Triple Try.prog 5 #[] H fun v H' => v = .bool true ∧ Sub H H' := by
  refine aliveG.vc H _ fun k1 hk1 k2 hk2 => ?_
  have h1 := GaS.new H hk1
  obtain ⟨o1, ho1⟩ := h1.some_k
  generalize H.upd k1 (.cells #[.bool false, .slice none 0 0, .map none] 27) = H1 at *
  have hk21 : k2 ≠ k1 := fun e => by rw [e, ho1] at hk2; cases hk2
  have b2 := Bx.rd bLen (Bx.new H1 k2 5 (([5] : List Int).flatMap bE))
  refine (take_ok (from_ := 2) (h1.mono (Sub.upd _ hk2)) b2 (by simp) (.inr fun a ha => by cases ha; exact hk21)).mono ?_
  rintro _ H2 ⟨rfl, F2, gm2, got2, K2, G2, hg2⟩
  obtain ⟨s, hs, rfl⟩ : ∃ s : BS, s.l = [5] ∧ got2 = [(2, s)] := hg2
  refine ⟨_, rfl, fun k6 hk6 => ?_⟩
  obtain ⟨o2, ho2⟩ := G2.some_k
  have hk61 : k6 ≠ k1 := fun e => by rw [e, ho2] at hk6; cases hk6
  have b6 := Bx.rd bLen (Bx.new H2 k6 5 (([6] : List Int).flatMap bE))
  refine (take_ok (from_ := 3) (G2.mono (Sub.upd _ hk6)) b6 (by simp) (.inr fun a ha => by cases ha; exact hk61)).mono ?_
  rintro _ H3 ⟨rfl, F3, gm3, got3, K3, G3, hg3⟩
  have em : mlook [((2 : Int), s)] 3 = none := by rw [mlook_one]; rfl
  rw [em] at hg3 ⊢
  obtain ⟨t, ht, rfl⟩ : ∃ t : BS, t.l = [6] ∧ got3 = [(2, s), (3, t)] := hg3
  refine ⟨_, rfl, (done_ok G3).mono ?_⟩
  rintro _ H4 ⟨s4, hd⟩
  obtain ⟨_, rfl⟩ := hd.resolve_right fun h => by cases h.1
  have G4 := G3.mono s4
  refine ⟨_, _, _, _, _, _, _, rfl, fun k19 hk19 => ?_⟩
  have b19 := Bx.rd iLen (Bx.new H4 k19 3 (([3, 2] : List Int).flatMap iE))
  refine (know_ok (G4.mono (Sub.upd _ hk19)) b19 (by simp)).mono ?_
  rintro _ H5 ⟨rfl, F5, K5, G5⟩
  refine ⟨_, rfl, (done_ok G5).mono ?_⟩
  rintro _ H6 ⟨s6, ⟨hd, rfl⟩ | ⟨hd, b, n, c, b', n', c', L, rfl, hr1, hr2, hL, hO⟩⟩
  · simp [doneB, mlook_two] at hd
  refine ⟨_, _, _, _, _, _, _, rfl, fun _ => ⟨fun _ => ⟨fun _ => ⟨fun _ => ⟨fun _ k32 hk32 => ?_, fun e => by cases e⟩, fun e => by cases e⟩, fun e => by cases e⟩, fun e => by cases e⟩, fun e => by cases e⟩
  have hw : (if false = true then ([] : List Int) else [3, 2]) = [3, 2] := rfl
  rw [if_neg (by simp)] at hr1 hL
  have hn2 : n = 2 := by simpa using hr1.len.symm
  subst hn2
  have b32 := Bx.rd iLen (Bx.new H6 k32 3 (([3, 2] : List Int).flatMap iE))
  refine (sameInts_ok (hr1.mono (Sub.upd _ hk32)) b32 (by simp)).mono ?_
  rintro _ _ ⟨rfl, rfl⟩
  refine ⟨true, rfl, fun _ k36 hk36 k37 hk37 k38 hk38 => ?_, fun e => by cases e⟩
  have s32 := Sub.upd (.cells (([3, 2] : List Int).flatMap iE).toArray 3 (0, 0)) hk32
  generalize H6.upd k32 (.cells (([3, 2] : List Int).flatMap iE).toArray 3 (0, 0)) = H7 at *
  have s36 := Sub.upd (.cells #[.int .u8 6] 5 (0, 0)) hk36
  have c36 := Bx.new H7 k36 5 (([6] : List Int).flatMap bE)
  have c36' : Bx (H7.upd k36 (.cells #[.int .u8 6] 5 (0, 0))) k36 5 (([6] : List Int).flatMap bE) := c36
  generalize H7.upd k36 (.cells #[.int .u8 6] 5) = H8 at *
  have s37 := Sub.upd (.cells #[.int .u8 5] 5 (0, 0)) hk37
  have c37 : Bx (H8.upd k37 (.cells #[.int .u8 5] 5 (0, 0))) k37 5 (([5] : List Int).flatMap bE) := Bx.new H8 k37 5 (([5] : List Int).flatMap bE)
  generalize H8.upd k37 (.cells #[.int .u8 5] 5) = H9 at *
  have s38 := Sub.upd (.cells #[.slice (at0 k36) 1 1, .slice (at0 k37) 1 1] 32 (0, 0)) hk38
  have c38 : Bx (H9.upd k38 (.cells #[.slice (at0 k36) 1 1, .slice (at0 k37) 1 1] 32 (0, 0))) k38 32 (([⟨at0 k36, 1, 1, [6]⟩, ⟨at0 k37, 1, 1, [5]⟩] : List BS).flatMap sE) := Bx.new H9 k38 32 (([⟨at0 k36, 1, 1, [6]⟩, ⟨at0 k37, 1, 1, [5]⟩] : List BS).flatMap sE)
  generalize H9.upd k38 (.cells #[.slice (at0 k36) 1 1, .slice (at0 k37) 1 1] 32) = H10 at *
  have s6a : Sub H6 H10 := s32.trans (s36.trans (s37.trans s38))
  have hnL := hr2.len
  have hLl := congrArg List.length hL
  simp only [List.length_map, texts] at hLl
  refine (sameL_ok (hr2.mono s6a) (Bx.rd sLen c38) (by simp at hLl; omega) (by rw [hL]; simp [texts, mlook_two, hs, ht]) (fun u hu => ((hO u hu).ok).mono s6a) fun u hu => ?_).mono ?_
  · simp at hu
    rcases hu with rfl | rfl
    · exact ⟨Bx.rd bLen ((c36'.sub s37).sub s38), by simp, by simp⟩
    · exact ⟨Bx.rd bLen (c37.sub s38), by simp, by simp⟩
  · rintro _ _ ⟨rfl, rfl⟩
    exact ⟨true, rfl, rfl, ((((K2.le.trans K3.le).trans K5.le).trans G5.sub).trans s6).trans s6a⟩
end Go.Gat
