/- Keeping possibilities, and letting an operation float: the contracts. -/
import Derived.Test.YtlhnepjidbofnaaDoorMdlF
namespace Go.Mdl
open Go.Vx Go.Vc Go.Proofs

/-! ### Which possibilities there may be at all -/
def subs : List Fl → List (List Fl)
  | [] => [[]]
  | f :: D => subs D ++ (subs D).map (f :: ·)
theorem mem_subs : ∀ {D l : List Fl}, l.Sublist D → l ∈ subs D
  | [], l, h => by rw [List.sublist_nil.1 h]; simp [subs]
  | f :: D, l, h => by
    unfold subs
    cases h with
    | cons _ h => exact List.mem_append.2 (.inl (mem_subs h))
    | cons_cons _ h => exact List.mem_append.2 (.inr (List.mem_map.2 ⟨_, mem_subs h, rfl⟩))
theorem of_subs : ∀ {D l : List Fl}, l ∈ subs D → l.Sublist D
  | [], l, h => by simp [subs] at h; rw [h]; exact .slnil
  | f :: D, l, h => by
    unfold subs at h
    rcases List.mem_append.1 h with h | h
    · exact (of_subs h).cons f
    · obtain ⟨r, hr, rfl⟩ := List.mem_map.1 h
      exact (of_subs hr).cons_cons f
theorem subs_len : ∀ D : List Fl, (subs D).length = 2 ^ D.length
  | [] => rfl
  | f :: D => by unfold subs; rw [List.length_append, List.length_map, subs_len D, List.length_cons, Nat.pow_succ]; omega
def uni (ds D : List Fl) : List Ch := ds.flatMap fun e => (subs D).map fun l => ⟨e.1, e.2, l⟩
def InU (ds D : List Fl) (x : Ch) : Prop := (x.p, x.d) ∈ ds ∧ x.fl.Sublist D
theorem mem_uni {ds D : List Fl} {x : Ch} : x ∈ uni ds D ↔ InU ds D x := by
  unfold uni InU
  rw [List.mem_flatMap]
  constructor
  · rintro ⟨e, he, h⟩
    obtain ⟨l, hl, rfl⟩ := List.mem_map.1 h
    exact ⟨he, of_subs hl⟩
  · rintro ⟨h1, h2⟩
    exact ⟨_, h1, List.mem_map.2 ⟨_, mem_subs h2, rfl⟩⟩
theorem uni_len (ds D : List Fl) : (uni ds D).length = ds.length * 2 ^ D.length := by
  unfold uni
  induction ds with
  | nil => simp
  | cons e ds ih => rw [List.flatMap_cons, List.length_append, ih, List.length_map, subs_len, List.length_cons, Nat.add_mul, Nat.one_mul, Nat.add_comm]
structure Good (ds D : List Fl) : Prop where
  sub : ∀ f ∈ D, f ∈ ds
  sz : ∀ f ∈ ds, f.2.size ≤ 1000
  len : ds.length ≤ 200
  dl : D.length ≤ 4
theorem Good.ulen {ds D : List Fl} (G : Good ds D) : (uni ds D).length ≤ 5000 := by
  rw [uni_len]
  have h1 : 2 ^ D.length ≤ 2 ^ 4 := Nat.pow_le_pow_right (by omega) G.dl
  have := Nat.mul_le_mul G.len h1
  omega
theorem gN_in {ds D : List Fl} (G : Good ds D) {x z : Ch} (h : InU ds D x) {i : Nat} (hz : gN x i = some z) : InU ds D z := by
  unfold gN at hz
  split at hz
  · rename_i f hf
    split at hz
    · cases hz
    · cases hz
      exact ⟨G.sub _ (h.2.subset (List.mem_of_getElem? hf)), (List.eraseIdx_sublist ..).trans h.2⟩
  · cases hz
theorem next_in {ds D : List Fl} (G : Good ds D) {x z : Ch} (h : InU ds D x) (hz : z ∈ nextL x) : InU ds D z := by
  unfold nextL nextP at hz
  obtain ⟨i, _, hi⟩ := List.mem_filterMap.1 hz
  exact gN_in G h hi
theorem reach_in {ds D : List Fl} (G : Good ds D) {x z : Ch} (h : InU ds D x) (hz : Reach x z) : InU ds D z := by
  induction hz with
  | refl => exact h
  | step _ hn ih => exact next_in G ih hn
theorem Good.ok {ds D : List Fl} (G : Good ds D) {x : Ch} (h : InU ds D x) : okC x :=
  ⟨G.sz _ h.1, by have := h.2.length_le; have := G.dl; omega, fun f hf => G.sz _ (G.sub _ (h.2.subset hf))⟩
theorem MapK.congr {F H : PHeap} {m : Nat} {sl : SlV} {ops : List OpS} {R R' : Poss} (h : MapK F H m sl ops R) (e : ∀ s z, R s z ↔ R' s z) : MapK F H m sl ops R' := by
  have : R = R' := funext fun s => funext fun z => propext (e s z)
  rwa [← this]

/-! ### Keeping -/
def keepR (f : Ch → Option Ch) (A : Ch → Prop) (z : Ch) : Prop := ∃ y, A y ∧ ∃ g, f y = some g ∧ Reach g z
/-- A function that looks at a possibility, and may change it. -/
def FnSpec (H : PHeap) (fv : Value) (f : Ch → Option Ch) : Prop := ∀ (H' : PHeap) (kc : Nat) (v : Cv) (x : Ch) (Q : Value → PHeap → Prop), Sub H H' → H kc = none → Bx H' kc 62 (cE v) → v.p = x.p → v.d = x.d →
  (∀ p d, (∀ y, f x = some y → y.p = p ∧ y.d = d ∧ y.fl = x.fl) → Q (.bool (f x).isSome) (H'.upd kc (.cells (cE ⟨p, d, v.a, v.n, v.c⟩).toArray 62 (0, 0)))) → CallY Tryd.prog fv #[.pointer (at0 kc)] H' Q
theorem FnSpec.mono {H H1 : PHeap} {fv : Value} {f : Ch → Option Ch} (h : FnSpec H fv f) (hs : Sub H H1) : FnSpec H1 fv f := fun H' kc v x Q h1 h2 => h H' kc v x Q (hs.trans h1) (hs.none h2)
theorem upd_self {H : PHeap} {k : Nat} {o : Obj} (h : H k = some o) : H.upd k o = H := by
  funext b; unfold PHeap.upd; split
  · rename_i e; rw [e, h]
  · rfl
theorem upd_upd (H : PHeap) (k : Nat) (o o' : Obj) : (H.upd k o).upd k o' = H.upd k o' := by
  funext b; unfold PHeap.upd; split <;> rfl
open Classical in
theorem keep_ok {T : Lib.PrintTabs} {F H : PHeap} (hT : Tabs H T) {m : Nat} {sl : SlV} {ops : List OpS} {R : Poss} (h : MapK F H m sl ops R) {ds D : List Fl} (G : Good ds D) (hR : ∀ s z, R s z → InU ds D z) (s : ByteArray) {fv : Value} {f : Ch → Option Ch} (hf : FnSpec H fv f) :
    Triple Tryd.prog 39 #[.pointer (at0 m), .string s, fv] H fun v H' => ∃ b, v = .bool b ∧ (b = true ↔ ∃ y, R s y ∧ (f y).isSome) ∧ MapK F H' m sl ops (if b = true then setR R s (keepR f (R s)) else R) := by
  refine mKeep.vc (at0 m) s fv H _ ((of_ok h s).mono ?_)
  rintro _ H1 ⟨u, xs, rfl, hu, hRx, hxl, hs1⟩
  obtain ⟨vs, hl, hr, hty⟩ := hu.out
  have hln := hl.len
  have hrl := hr.1
  refine ⟨u.a, u.n, u.c, rfl, (all_ok (hT.mono hs1) (U := uni ds D) hl hr (by omega) (fun x hx => mem_uni.2 (hR s x ((hRx x).2 ⟨x, hx, .refl⟩))) (fun x hx z hz => mem_uni.2 (next_in G (mem_uni.1 hx) hz)) (fun x hx => G.ok (mem_uni.1 hx)) G.ulen).mono ?_⟩
  rintro _ H2 ⟨b, n, q, vs', ys, rfl, hl2, hr2, hnd, hys, hyU, hs2⟩
  have hln2 := hl2.len
  have hrl2 := hr2.1
  have hyl : ys.length ≤ 5000 := Nat.le_trans (nodup_len hnd hyU) G.ulen
  have hyR : ∀ y, y ∈ ys ↔ R s y := fun y => by rw [hys, hRx]
  have h12 := hs1.trans hs2
  refine ⟨b, n, q, rfl, fun t H' => match t with | [.slice a k r, .int _ i] => 0 ≤ i ∧ i ≤ n ∧ Sub H2 H' ∧ Off H2 a ∧ ∃ us, OwnL H' 62 cE 3 a k r us ∧ Rel H' us ((ys.take i.toNat).filterMap f) | _ => False, fun t _ => match t with | [_, .int _ i] => (n - i).toNat | _ => 0,
    ⟨by omega, by omega, Sub.refl _, Off.none _, [], Owns.nil .., ⟨by simp, fun i v x h => by simp at h⟩⟩, ?_⟩
  rintro a k r i H3 ⟨i0, i1, hs3, hof, us, how, hrel⟩
  obtain ⟨i, rfl⟩ : ∃ j : Nat, i = j := ⟨i.toNat, by omega⟩
  rw [Int.toNat_natCast] at hrel
  have hkl : k = ((ys.take i).filterMap f).length := by
    have := (how.rd (E := cE) (sz := 3) (by omega) cLen).len
    have := hrel.1
    omega
  have hfl : ((ys.take i).filterMap f).length ≤ 5000 := Nat.le_trans (List.length_filterMap_le ..) (by rw [List.length_take]; omega)
  refine ⟨fun hi => ?_, fun hi => ?_⟩
  · have hi' : i < n := by simpa using hi
    have hl3 := hl2.mono hs3
    obtain ⟨v, hv, hvr⟩ := hl3.ex (i := (i : Int)) (by omega) (by omega)
    rw [Int.toNat_natCast] at hv
    obtain ⟨x, hx, hxr⟩ := hr2.get hv
    have ei : ((i : Int) + 1).toNat = i + 1 := by omega
    have less : Less ((n : Int) - ((i : Int) + 1)).toNat ((n : Int) - i).toNat := ⟨by omega⟩
    rw [wrap64 (n := (i : Int) + 1) (by omega) (by omega)]
    refine ⟨hl3.ob (by omega) (by omega), v.p, v.d, v.a, v.n, v.c, hvr, fun kc hkc => ⟨_, Bx.writes (Bx.new ..) (cE v) rfl, ?_⟩⟩
    rw [upd_upd]
    have hskc := Sub.upd (H := H3) (.cells (cE v).toArray 62 (0, 0)) hkc
    refine hf _ kc v x _ ((h12.trans hs3).trans hskc) ((h12.trans hs3).none hkc) (Bx.new ..) hxr.p hxr.d fun p d hpd => ?_
    rw [upd_upd]
    have hsw := Sub.upd (H := H3) (.cells (cE ⟨p, d, v.a, v.n, v.c⟩).toArray 62 (0, 0)) hkc
    refine ⟨_, rfl, fun e => ?_, fun e => ?_⟩
    · obtain ⟨y, hy⟩ := Option.isSome_iff_exists.1 e
      obtain ⟨rfl, rfl, hyf⟩ := hpd y hy
      refine ⟨y.p, y.d, v.a, v.n, v.c, (Bx.new H3 kc _ (cE ⟨y.p, y.d, v.a, v.n, v.c⟩)).reads, fun k36 hk36 => ?_⟩
      have how' : OwnL (H3.upd kc (.cells (cE ⟨y.p, y.d, v.a, v.n, v.c⟩).toArray 62 (0, 0))) 62 cE 3 a k r us := Owns.mono how fun a' o _ ho => hsw.le _ _ ho
      refine append_one tCh (E := cE) (x := ⟨y.p, y.d, v.a, v.n, v.c⟩) hk36 cLen how' rfl (cOne _) (by simp [maxLen]; omega) (by omega) ?_
      intro a' r' H5 how5 hf5 hfr5 _
      have hofk : Off (H2) a := hof
      have hs5 : Sub H2 H5 := hf5.sub (hs3.trans hsw) hof
      have hk5 : FlK H3 H5 := FlK.trans (fun b c r h => hsw.le _ _ h) (FlK.frame hf5 fun a1 ha c1 r1 hk => by
        obtain ⟨c2, r2, h2⟩ := own_ty how' a1 ha
        rw [h2] at hk; injection hk with e; injection e with _ e _; cases e)
      refine ⟨a', k + 1, r', rfl, ⟨by omega, by omega, hs5, hfr5.off (hs3.trans hsw) hof, _, how5, ?_⟩, less⟩
      rw [ei, List.take_add_one, hx, List.filterMap_append]
      simp only [Option.toList_some, List.filterMap_cons, hy, List.filterMap_nil]
      refine (hrel.keep hk5).add ⟨rfl, rfl, ?_, ?_⟩
      · rw [hyf]; exact (hxr.mono hs5).fl
      · exact (hxr.mono hs5).ty
    · have hy : f x = none := by simpa using e
      refine ⟨⟨by omega, by omega, hs3.trans hsw, hof, us, Owns.mono how fun a' o _ ho => hsw.le _ _ ho, ?_⟩, less⟩
      rw [ei, List.take_add_one, hx, List.filterMap_append]
      simp only [Option.toList_some, List.filterMap_cons, hy, List.filterMap_nil, List.append_nil]
      exact hrel.mono hsw
  · have hi' : ¬ i < n := by simpa using hi
    rw [List.take_of_length_le (by omega)] at hrel hkl hfl
    have hm3 := h.mono (h12.trans hs3)
    have hex : (decide ((k : Int) > 0) = true ↔ ∃ y, R s y ∧ (f y).isSome) := by
      rw [decide_eq_true_iff]
      constructor
      · intro hk
        obtain ⟨g, hg⟩ := List.exists_mem_of_length_pos (l := ys.filterMap f) (by omega)
        obtain ⟨y, hy, hyg⟩ := List.mem_filterMap.1 hg
        exact ⟨y, (hyR y).1 hy, by rw [hyg]; rfl⟩
      · rintro ⟨y, hy, hyg⟩
        obtain ⟨g, hg⟩ := Option.isSome_iff_exists.1 hyg
        have := List.length_pos_of_mem (List.mem_filterMap.2 ⟨y, (hyR y).2 hy, hg⟩)
        omega
    have hcl : ChL H3 ⟨a, k, r⟩ (ys.filterMap f) := ⟨us, how.rd (by omega) cLen, hrel, own_ty how⟩
    refine ⟨fun hk => (set_ok hm3 s hcl hfl).mono ?_, fun hk => ⟨_, rfl, hex, by rw [if_neg (by rw [hk]; simp)]; exact hm3⟩⟩
    rintro _ H4 ⟨rfl, hm4⟩
    refine ⟨rfl, _, rfl, hex, ?_⟩
    rw [if_pos hk]
    refine hm4.congr fun t z => ?_
    unfold setR keepR
    refine or_congr_left (and_congr_right fun _ => ⟨?_, ?_⟩)
    · rintro ⟨g, hg, hz⟩
      obtain ⟨y, hy, hyg⟩ := List.mem_filterMap.1 hg
      exact ⟨y, (hyR y).1 hy, g, hyg, hz⟩
    · rintro ⟨y, hy, g, hg, hz⟩
      exact ⟨g, List.mem_filterMap.2 ⟨y, (hyR y).2 hy, hg⟩, hz⟩
end Go.Mdl
