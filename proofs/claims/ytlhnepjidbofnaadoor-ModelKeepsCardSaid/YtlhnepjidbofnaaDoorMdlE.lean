/- All possibilities that come of some: the contract of the program's 'all'. -/
import Derived.Test.YtlhnepjidbofnaaDoorMdlD
namespace Go.Mdl
open Go.Vx Go.Vc Go.Proofs

inductive Reach (x : Ch) : Ch → Prop
  | refl : Reach x x
  | step {y z : Ch} : Reach x y → z ∈ nextL y → Reach x z
theorem nodup_len {α : Type} : ∀ {l m : List α}, l.Nodup → (∀ x ∈ l, x ∈ m) → l.length ≤ m.length
  | [], m, _, _ => Nat.zero_le _
  | x :: l, m, hn, hs => by
    classical
    rw [List.nodup_cons] at hn
    obtain ⟨a, b, rfl⟩ := List.append_of_mem (hs x (List.mem_cons_self ..))
    have := nodup_len (l := l) (m := a ++ b) hn.2 fun y hy => by
      have h1 := hs y (List.mem_cons_of_mem _ hy)
      rcases List.mem_append.1 h1 with h | h
      · exact List.mem_append.2 (.inl h)
      · rcases List.mem_cons.1 h with rfl | h
        · exact (hn.1 hy).elim
        · exact List.mem_append.2 (.inr h)
    simp only [List.length_append, List.length_cons] at *
    omega
theorem Met.weaken {T : Lib.PrintTabs} {F G H : PHeap} {k7 k9 : Nat} {ys : List Ch} {K : Nat} (h : Met T G H k7 k9 ys K) (hs : Sub F G) : Met T F H k7 k9 ys K := by
  obtain ⟨mb, oa, n, c, vs, ml, h1, h2, h⟩ := h.row
  rename_i h0
  exact ⟨hs.trans h0.sub, hs.none h0.o7, hs.none h0.o9, h0.nd, mb, oa, n, c, vs, ml, hs.none h1, h2.sub hs, h⟩
/-- The rows of floats, a block, and what stays besides. -/
def stays (F H : PHeap) (k : Nat) : PHeap := fun b => if b = k then H b else match H b with
  | some (.cells c t r) => if t = 71 then some (.cells c t r) else F b
  | _ => F b
theorem stays_sub {F H : PHeap} {k : Nat} (h : Sub F H) : Sub (stays F H k) H := ⟨fun b o hb => by
  unfold stays at hb
  split at hb
  · exact hb
  · split at hb
    · rename_i c t r hk
      split at hb
      · rw [hk]; exact hb
      · exact h.le _ _ hb
    · exact h.le _ _ hb⟩
theorem stays_sup {F H : PHeap} {k : Nat} (h : Sub F H) : Sub F (stays F H k) := ⟨fun b o hb => by
  unfold stays
  split
  · exact h.le _ _ hb
  · split
    · rename_i c t r hk
      split
      · rw [← hk]; exact h.le _ _ hb
      · exact hb
    · exact hb⟩
theorem stays_flk {F H : PHeap} {k : Nat} : FlK H (stays F H k) := fun b c r hk => by
  unfold stays
  split
  · exact hk
  · rw [hk]; simp
theorem stays_none {F H : PHeap} {k b : Nat} (hb : b ≠ k) (hF : F b = none) (h : ∀ c r, H b ≠ some (.cells c 71 r)) : stays F H k b = none := by
  unfold stays
  rw [if_neg hb]
  split
  · rename_i c t r hk
    rw [if_neg fun e => h c r (by rw [hk, e])]; exact hF
  · exact hF
theorem Met.restay {T : Lib.PrintTabs} {F H : PHeap} {k7 k9 k : Nat} {ys : List Ch} {K : Nat} (h : Met T F H k7 k9 ys K) (hk : H k = none) (o : Obj) : Met T (stays F (H.upd k o) k) (H.upd k o) k7 k9 ys K := by
  have h' := h.mono (Sub.upd o hk)
  obtain ⟨mb, oa, n, c, vs, ml, h1, h2, h3, h4, h5, h6, h7, h8⟩ := h.row
  have hs := Sub.upd (H := H) o hk
  have ne : ∀ {b : Nat} {o : Obj}, H b = some o → b ≠ k := fun {b o} hb e => by rw [e, hk] at hb; cases hb
  obtain ⟨es, ck, g1, _⟩ := h4.out
  have h3' := h3.sub hs
  have h5' := h5.sub hs
  have g1' := hs.le _ _ g1
  refine ⟨stays_sub h'.sub, stays_none (ne h3) h.o7 fun c r e => ?_, stays_none (ne h5) h.o9 fun c r e => ?_, h.nd, mb, oa, n, c, vs, ml, stays_none (ne g1) h1 fun c r e => ?_, fun a ha => ?_, h3', h4.mono fun o ho => hs.le _ _ ho, h5', h6.mono fun a o _ ho => hs.le _ _ ho, h7.mono hs, h8⟩
  · unfold Bx at h3'; rw [h3'] at e; injection e with e; injection e with _ e _; cases e
  · unfold Bx at h5'; rw [h5'] at e; injection e with e; injection e with _ e _; cases e
  · rw [g1'] at e; cases e
  · rcases h6.row with ⟨e1, _⟩ | ⟨g, cur, e1, hg, _⟩
    · rw [e1] at ha; cases ha
    · rw [e1] at ha; cases ha
      exact stays_none (ne hg) (h2 _ e1) fun c' r e => by
        have := hs.le _ _ hg
        rw [this] at e; injection e with e; injection e with _ e _; cases e
theorem next_ok {H : PHeap} {v : Cv} : Triple Tryd.prog 32 #[.agg (cE v).toArray] H fun u H' => ∃ k, H k = none ∧ u = .func (.func 47) #[] #[.pointer (at0 k)] ∧ H' = H.upd k (.cells (cE v).toArray 62 (0, 0)) :=
  mNext.vc v.p v.d v.a v.n v.c H _ fun k hk => ⟨k, hk, rfl, rfl⟩
theorem nextE_get {x : Ch} {i : Nat} {b : Bool} {s : ByteArray} {a : Option Addr} {n c : Nat} {F : PHeap} (h : nextE x i [.agg #[.bool b, .string s, .slice a n c]] F) : ∃ z, (nextL x)[i]? = some z ∧ ChR F ⟨b, s, a, n, c⟩ z := by
  obtain ⟨u, z, h1, h2, h3⟩ := h
  obtain ⟨p, d, a', n', c'⟩ := u
  simp [cE] at h2
  obtain ⟨rfl, rfl, rfl, rfl, rfl⟩ := h2
  exact ⟨z, h1, h3⟩
/-- What the second loop has. -/
structure Inv (T : Lib.PrintTabs) (F H : PHeap) (k7 k9 : Nat) (U xs : List Ch) (ys : List Ch) (K : Nat) : Prop where
  met : Met T F H k7 k9 ys K
  has : ∀ x ∈ xs, x ∈ ys
  univ : ∀ y ∈ ys, y ∈ U
  reach : ∀ y ∈ ys, ∃ x ∈ xs, Reach x y
open Classical in
theorem all_ok {H : PHeap} {T : Lib.PrintTabs} (hT : Tabs H T) {oa : Option Addr} {n c : Nat} {vs : List Cv} {xs U : List Ch} (hl : RdL H cE 3 oa n vs) (hr : Rel H vs xs) (hn : n ≤ 5000)
    (hU : ∀ x ∈ xs, x ∈ U) (hcl : ∀ x ∈ U, ∀ z ∈ nextL x, z ∈ U) (hok : ∀ x ∈ U, okC x) (hlen : U.length ≤ 5000) :
    Triple Tryd.prog 18 #[.slice oa n c] H fun v H' => ∃ b m q vs' ys, v = .slice b m q ∧ RdL H' cE 3 b m vs' ∧ Rel H' vs' ys ∧ ys.Nodup ∧ (∀ y, y ∈ ys ↔ ∃ x ∈ xs, Reach x y) ∧ (∀ y ∈ ys, y ∈ U) ∧ Sub H H' := by
  have hlv := hl.len
  have hlx := hr.1
  refine mAll.vc oa n c H _ (makeMap_mp fun mb hmb => ⟨some mb, rfl, fun k7 hk7 => ⟨_, Bx.writes (Bx.new ..) [.map (some mb)] rfl, fun k9 hk9 => ?_⟩⟩)
  have hs1 := Sub.upd (H := H) (.map #[] 0) hmb
  have n7 : k7 ≠ mb := fun e => by rw [e, upd_eq] at hk7; cases hk7
  have h7 : H k7 = none := by rwa [upd_ne _ _ n7] at hk7
  have e2 : ∀ (o o' : Obj) (G : PHeap), (G.upd k7 o).upd k7 o' = G.upd k7 o' := fun o o' G => by
    funext k; unfold PHeap.upd; split <;> rfl
  rw [e2] at hk9 ⊢
  have n97 : k9 ≠ k7 := fun e => by rw [e, upd_eq] at hk9; cases hk9
  have n9m : k9 ≠ mb := fun e => by rw [upd_ne _ _ n97, e, upd_eq] at hk9; cases hk9
  have h9 : H k9 = none := by rwa [upd_ne _ _ n97, upd_ne _ _ n9m] at hk9
  have m0 : Met T H (((H.upd mb (.map #[] 0)).upd k7 (.cells [Value.map (some mb)].toArray 56 (0, 0))).upd k9 (.cells #[.slice none 0 0] 57 (0, 0))) k7 k9 [] 0 :=
    ⟨(hs1.trans (Sub.upd _ hk7)).trans (Sub.upd _ hk9), h7, h9, List.nodup_nil, mb, none, 0, 0, [], [], hmb, Off.none _, (Bx.new ..).upd_ne _ (Ne.symm n97), (Mp.new H mb _ _).mono fun o ho => by rw [upd_ne _ _ (Ne.symm n9m), upd_ne _ _ (Ne.symm n7)]; exact ho, Bx.new .., Owns.nil .., ⟨rfl, fun i v x h => by simp at h⟩, fun x => by simp [mlook], fun t v h => by simp [mlook] at h⟩
  refine ⟨fun t H' => match t with | [.int _ i] => 0 ≤ i ∧ i ≤ n ∧ ∃ ys, Met T H H' k7 k9 ys i.toNat ∧ ∀ y, y ∈ ys ↔ y ∈ xs.take i.toNat | _ => False, fun t _ => match t with | [.int _ i] => (n - i).toNat | _ => 0, ⟨by omega, by omega, [], m0, by simp⟩, ?_⟩
  rintro i H1 ⟨i0, i1, ys, m1, hys⟩
  obtain ⟨i, rfl⟩ : ∃ j : Nat, i = j := ⟨i.toNat, by omega⟩
  rw [Int.toNat_natCast] at m1 hys
  refine ⟨fun hi => ?_, fun hi => ?_⟩
  · -- the first ones
    have hi' : i < n := by simpa using hi
    have hl1 := hl.mono m1.sub
    obtain ⟨v, hv, hvr⟩ := hl1.ex (i := (i : Int)) (by omega) (by omega)
    rw [Int.toNat_natCast] at hv
    obtain ⟨z, hz, hzr⟩ := hr.get hv
    have hzU := hU z (List.mem_of_getElem? hz)
    refine ⟨hl1.ob (by omega) (by omega), v.p, v.d, v.a, v.n, v.c, hvr, fun kc hkc => ⟨_, Bx.writes (Bx.new ..) (cE v) rfl, ?_⟩⟩
    have e3 : ∀ (o o' : Obj) (G : PHeap), (G.upd kc o).upd kc o' = G.upd kc o' := fun o o' G => by
      funext k; unfold PHeap.upd; split <;> rfl
    rw [e3]
    have hsk := Sub.upd (H := H1) (.cells (cE v).toArray 62 (0, 0)) hkc
    have hyl : ys.length ≤ U.length := nodup_len m1.nd fun y hy => hU y (List.mem_of_mem_take ((hys y).1 hy))
    refine visit hT (m1.mono hsk) (hzr.mono (m1.sub.trans hsk)) (hok z hzU) (Bx.new ..) (by omega) (by omega) fun H' m2 => ?_
    rw [wrap64 (by omega) (by omega)]
    refine ⟨⟨by omega, by omega, _, by rw [show ((i : Int) + 1).toNat = i + 1 by omega]; exact m2, fun y => ?_⟩, ⟨by simp only; omega⟩⟩
    rw [show ((i : Int) + 1).toNat = i + 1 by omega, List.take_add_one, hz, List.mem_append, ← hys y]
    unfold addN
    split
    · rename_i hin
      simp only [Option.toList_some, List.mem_cons, List.not_mem_nil, or_false]
      exact ⟨.inl, fun h => h.elim id fun e => e ▸ hin⟩
    · simp
  · -- what comes of them
    have hi' : ¬ i < n := by simpa using hi
    obtain rfl : i = n := by omega
    rw [List.take_of_length_le (by omega)] at hys
    refine ⟨fun t H' => match t with | [.int _ j] => 0 ≤ j ∧ ∃ ys K, Inv T H H' k7 k9 U xs ys K ∧ j ≤ ys.length ∧ (K : Int) ≤ i + 10 * j ∧ ∀ (q : Nat) y, (q : Int) < j → ys[q]? = some y → ∀ z ∈ nextL y, z ∈ ys | _ => False,
      fun t _ => match t with | [.int _ j] => (U.length - j).toNat | _ => 0, ⟨by omega, ys, i, ⟨m1, fun x hx => (hys x).2 hx, fun y hy => hU y ((hys y).1 hy), fun y hy => ⟨y, (hys y).1 hy, .refl⟩⟩, by omega, by omega, fun q y hq => by omega⟩, ?_⟩
    rintro j H2 ⟨j0, ys2, K, v2, j1, hK, hdone⟩
    obtain ⟨j, rfl⟩ : ∃ p : Nat, j = p := ⟨j.toNat, by omega⟩
    obtain ⟨mb2, oa2, n2, c2, vs2, ml2, g1, g2, g3, g4, g5, g6, g7, g8, g9⟩ := v2.met.row
    have hrd := g6.rd (E := cE) (sz := 3) (by omega) cLen
    have hl2 := hrd.len
    have hl3 := g7.1
    have hyU : ys2.length ≤ U.length := nodup_len v2.met.nd v2.univ
    refine ⟨oa2, n2, c2, g5.reads, fun hj => ⟨oa2, n2, c2, g5.reads, ?_⟩, fun hj => ?_⟩
    · have hj' : j < n2 := by simpa using hj
      obtain ⟨u, hu, hur⟩ := hrd.ex (i := (j : Int)) (by omega) (by omega)
      rw [Int.toNat_natCast] at hu
      obtain ⟨x, hx, hxr⟩ := g7.get hu
      have hxU := v2.univ x (List.mem_of_getElem? hx)
      refine ⟨hrd.ob (by omega) (by omega), u.p, u.d, u.a, u.n, u.c, hur, next_ok.mono ?_⟩
      rintro _ H3 ⟨k, hk, rfl, rfl⟩
      have hs3 := Sub.upd (H := H2) (.cells (cE u).toArray 62 (0, 0)) hk
      have hbk : Bx (H2.upd k (.cells (cE u).toArray 62 (0, 0))) k 62 (cE u) := Bx.new ..
      have m3 := v2.met.restay hk (.cells (cE u).toArray 62 (0, 0))
      have hFr := stays_sup (k := k) (v2.met.sub.trans hs3)
      have hxr3 : ChR (stays H (H2.upd k (.cells (cE u).toArray 62 (0, 0))) k) u x := (hxr.mono hs3).keep stays_flk
      have hbr : Bx (stays H (H2.upd k (.cells (cE u).toArray 62 (0, 0))) k) k 62 (cE u) := by unfold Bx stays; rw [if_pos rfl]; exact hbk
      have hox := hok x hxU
      have hnl := nextL_len x
      refine ⟨_, rfl, (nextL x).length, nextE x, fun i H' => ∃ ys', Met T (stays H (H2.upd k (.cells (cE u).toArray 62 (0, 0))) k) H' k7 k9 ys' (K + i) ∧ (∃ r, ys' = ys2 ++ r) ∧ (∀ y ∈ ys', y ∈ U) ∧ (∀ y ∈ ys', ∃ x ∈ xs, Reach x y) ∧ ∀ (q : Nat) z, q < i → (nextL x)[q]? = some z → z ∈ ys', fun _ _ => False, _, m3.sub, iter_ok hbr hxr3 (by have := hox.2.1; omega), ?_, fun i H' ⟨_, hm, _⟩ => hm.sub, ⟨fun i A B ⟨ys', hm, hr⟩ hs => ⟨ys', hm.mono hs, hr⟩⟩, ⟨ys2, m3, ⟨[], by simp⟩, v2.univ, v2.reach, fun q z hq => by omega⟩, ?_, ?_, trivial, trivial⟩
      · exact ⟨fun i l F ⟨w, z, _, h2, _⟩ => by subst h2; rfl⟩
      · rintro b s a m q i F H' hE hF ⟨ys', hm, ⟨r, rfl⟩, hu', hre', hd'⟩ kc hkc
        obtain ⟨z, hz, hzr⟩ := nextE_get hE
        have hzx : z ∈ nextL x := List.mem_of_getElem? hz
        have hzU := hcl x hxU z hzx
        refine ⟨_, Bx.writes (Bx.new ..) (cE ⟨b, s, a, m, q⟩) rfl, ?_⟩
        have e3 : ∀ (o o' : Obj) (G : PHeap), (G.upd kc o).upd kc o' = G.upd kc o' := fun o o' G => by
          funext k; unfold PHeap.upd; split <;> rfl
        rw [e3]
        have hsk := Sub.upd (H := H') (.cells (cE ⟨b, s, a, m, q⟩).toArray 62 (0, 0)) hkc
        have hil := (List.getElem?_eq_some_iff.1 hz).1
        have hyl : (ys2 ++ r).length ≤ U.length := nodup_len hm.nd hu'
        have hx10 := hox.2.1
        refine visit (hT.mono hFr) (hm.mono hsk) (hzr.mono (hF.trans hsk)) (hok z hzU) (Bx.new ..) (by omega) (by omega) fun H5 m5 => ?_
        refine ⟨_, m5, ?_, fun y hy => ?_, fun y hy => ?_, fun q' z' hq' hz' => ?_⟩
        · unfold addN; split
          · exact ⟨r, rfl⟩
          · exact ⟨r ++ [z], by rw [List.append_assoc]⟩
        · unfold addN at hy; split at hy
          · exact hu' y hy
          · rcases List.mem_append.1 hy with h | h
            · exact hu' y h
            · simp at h; rw [h]; exact hzU
        · unfold addN at hy; split at hy
          · exact hre' y hy
          · rcases List.mem_append.1 hy with h | h
            · exact hre' y h
            · simp at h; rw [h]
              obtain ⟨x0, hx0, hr0⟩ := v2.reach x (List.mem_of_getElem? hx)
              exact ⟨x0, hx0, hr0.step hzx⟩
        · have hz2 : z ∈ addN (ys2 ++ r) z := by unfold addN; split <;> simp_all
          have hmono : ∀ y ∈ ys2 ++ r, y ∈ addN (ys2 ++ r) z := fun y hy => by
            unfold addN
            split
            · exact hy
            · exact List.mem_append.2 (.inl hy)
          by_cases e : q' = i
          · rw [e, hz] at hz'; cases hz'; exact hz2
          · exact hmono z' (hd' q' z' (by omega) hz')
      · rintro H6 ⟨ys', hm, ⟨r, rfl⟩, hu', hre', hd'⟩
        have hx10 := hox.2.1
        rw [wrap64 (by omega) (by omega)]
        refine ⟨⟨by omega, _, _, ⟨hm.weaken hFr, fun y hy => List.mem_append.2 (.inl (v2.has y hy)), hu', hre'⟩, by rw [List.length_append]; omega, by omega, fun q y hq hy z hz => ?_⟩, ⟨by simp only; omega⟩⟩
        by_cases e : q = j
        · have hjl : j < ys2.length := by omega
          rw [e, List.getElem?_append_left hjl, hx] at hy
          cases hy
          obtain ⟨p, hp⟩ := List.mem_iff_getElem?.1 hz
          exact hd' p z (List.getElem?_eq_some_iff.1 hp).1 hp
        · rw [List.getElem?_append_left (by omega)] at hy
          exact List.mem_append.2 (.inl (hdone q y (by omega) hy z hz))
    · have hj' : ¬ j < n2 := by simpa using hj
      have key : ∀ x ∈ xs, ∀ y, Reach x y → y ∈ ys2 := fun x hx y hxy => by
        induction hxy with
        | refl => exact v2.has x hx
        | step _ hz ih =>
          obtain ⟨q, hq⟩ := List.mem_iff_getElem?.1 ih
          exact hdone q _ (by have := (List.getElem?_eq_some_iff.1 hq).1; omega) hq _ hz
      refine ⟨oa2, n2, c2, g5.reads, oa2, n2, c2, vs2, ys2, rfl, hrd, g7, v2.met.nd, fun y => ⟨v2.reach y, fun ⟨x, hx, hxy⟩ => key x hx y hxy⟩, v2.univ, v2.met.sub⟩
end Go.Mdl
