/- Which blobs a name may have: the contract of Can. -/
import Derived.Test.YtlhnepjidbofnaaDoorMdlS
import Derived.Test.YtlhnepjidbofnaaDoorLabP
namespace Go.Mdl
open Go.Vx Go.Vc Go.Proofs Go.Txt Go.Lab

theorem sortS : SortC Tryd.prog 20 (fun l : List UInt8 => Value.string ⟨l.toArray⟩) (fun zs : List (List UInt8) => zs.mergeSort fun x y => decide (x ≤ y)) :=
  ⟨fun blk cap zs w h1 h2 h3 => Tryd.slices_Sort_string blk 0 cap zs w h1 h2 h3, fun cap w => Tryd.slices_Sort_string_none none cap w, fun zs => List.length_mergeSort _⟩
theorem flat_str (l : List ByteArray) : l.flatMap sE = (l.map ofB).map (fun l : List UInt8 => Value.string ⟨l.toArray⟩) := by
  induction l with
  | nil => rfl
  | cons x xs ih =>
    rw [List.flatMap_cons, ih]
    cases x
    simp [strE, ofB]
theorem flat_back (l : List (List UInt8)) : l.map (fun l : List UInt8 => Value.string ⟨l.toArray⟩) = (l.map toB).flatMap sE := by
  rw [flat_str]
  rw [List.map_map, List.map_map]
  refine List.map_congr_left fun x _ => ?_
  simp [ofB, toB]

/-! ### What Can tells -/
abbrev StX := Bool × ByteArray
structure StV where
  p : Bool
  d : SlV
def tE (v : StV) : List Value := [.bool v.p, .slice v.d.a v.d.n v.d.c]
theorem tLen (v : StV) : (tE v).length = 2 := rfl
theorem tOne (v : StV) : ∀ u ∈ tE v, u.oneCell' = true := fun u hu => by simp [tE] at hu; rcases hu with rfl | rfl <;> rfl
theorem tSta : ElemT Tryd.prog 40 43 2 32 := .of (by kernel_rfl)
def StR (H : PHeap) (vs : List StV) (xs : List StX) : Prop := vs.length = xs.length ∧ ∀ (i : Nat) (v : StV) (x : StX), vs[i]? = some v → xs[i]? = some x → v.p = x.1 ∧ RdL H bE 1 v.d.a v.d.n (bytesL x.2)
theorem StR.mono {H H' : PHeap} {vs : List StV} {xs : List StX} (h : StR H vs xs) (hs : Sub H H') : StR H' vs xs := ⟨h.1, fun i v x a b => ⟨(h.2 i v x a b).1, (h.2 i v x a b).2.mono hs⟩⟩
theorem StR.add {H : PHeap} {vs : List StV} {xs : List StX} (h : StR H vs xs) {v : StV} {x : StX} (hp : v.p = x.1) (hd : RdL H bE 1 v.d.a v.d.n (bytesL x.2)) : StR H (vs ++ [v]) (xs ++ [x]) := by
  refine ⟨by simp [h.1], fun i u y hu hy => ?_⟩
  by_cases hi : i < vs.length
  · rw [List.getElem?_append_left hi] at hu
    rw [List.getElem?_append_left (by rw [← h.1]; exact hi)] at hy
    exact h.2 i u y hu hy
  · rw [List.getElem?_append_right (by omega)] at hu
    rw [List.getElem?_append_right (by rw [← h.1]; omega)] at hy
    have h1 := (List.getElem?_eq_some_iff.1 hu).1
    have h2 := h.1
    simp only [List.length_singleton] at h1
    have e : i = vs.length := by omega
    subst e
    rw [h2] at hy
    simp at hu hy
    subst hu hy
    exact ⟨hp, hd⟩
/-- Nothing at all first, if there may be none; then all blobs, rising. -/
structure IsCan (A : Ch → Prop) (L : List StX) : Prop where
  out : ∃ (ab : Bool) (ts : List ByteArray), L = (if ab then [(false, ⟨#[]⟩)] else []) ++ ts.map (fun t => (true, t)) ∧ (ab = true ↔ ∃ z, A z ∧ z.p = false) ∧ Rising ts ∧ ∀ t, t ∈ ts ↔ ∃ z, A z ∧ z.p = true ∧ z.d = t
theorem IsCan.uniq {A : Ch → Prop} {L M : List StX} (h : IsCan A L) (h' : IsCan A M) : L = M := by
  obtain ⟨ab, ts, rfl, h1, h2, h3⟩ := h.out
  obtain ⟨ab', ts', rfl, h1', h2', h3'⟩ := h'.out
  have e : ts = ts' := rising_ext h2 h2' fun t => by rw [h3, h3']
  have e1 : ab = ab' := by rw [Bool.eq_iff_iff, h1, h1']
  rw [e, e1]
/-- What the first loop of Can has. -/
structure CanK (H0 H : PHeap) (mb : Nat) (b : Option Addr) (q r : Nat) (ts : List ByteArray) (K : Nat) : Prop where
  sub : Sub H0 H
  o : H0 mb = none
  off : Off H0 b
  own : OwnL H 9 strE 1 b q r ts
  nd : ts.Nodup
  map : ∃ ml, Mp H mb Value.string (Value.int .i64) ml ∧ (∀ t, t ∈ ts ↔ (mlook ml t).isSome) ∧ ∀ t v, mlook ml t = some v → 1 ≤ v ∧ v ≤ K
theorem hcell_rest {H : PHeap} {k : Nat} (hk : ∀ c e r, H k ≠ some (.cells c e r)) (a : Addr) : hcell (rest H [k]) a = hcell H a := by
  unfold hcell
  by_cases e : a.block = k
  · rw [e, rest_none (by simp)]
    cases h : H k with
    | none => rfl
    | some o => cases o <;> first | rfl | exact absurd h (hk _ _ _)
  · rw [rest_at (by simpa using e)]
theorem rd_rest {α : Type} {H : PHeap} {k : Nat} (hk : ∀ c e r, H k ≠ some (.cells c e r)) {E : α → List Value} {sz : Nat} {a : Option Addr} {n : Nat} {l : List α} (h : RdL H E sz a n l) : RdL (rest H [k]) E sz a n l :=
  ⟨h.len, h.pos, fun i x hx => by
    obtain ⟨a, ha, hr⟩ := (h.get i x hx).out
    exact ⟨a, ha, fun j v hv => by rw [hcell_rest hk]; exact hr j v hv⟩⟩
section
variable {T : Lib.PrintTabs} {F H : PHeap} {m : Nat} {sl : SlV} {ops : List OpS} {R : Poss} {ds D : List Fl}
/-- The blobs, one behind the other. -/
theorem states_ok {H0 H1 : PHeap} (hs : Sub H0 H1) {a b : Option Addr} {q n c : Nat} {ts : List ByteArray} (hts : RdL H0 strE 1 a q ts) (hq : q ≤ 10000) {vs : List StV} {xs : List StX} (how : OwnL H1 43 tE 2 b n c vs) (hst : StR H0 vs xs) (hb : Off H0 b) (hn : n ≤ 1) {Q : Value → PHeap → Prop}
    (hQ : ∀ b' n' c' vs' H', OwnL H' 43 tE 2 b' n' c' vs' → StR H' vs' (xs ++ ts.map fun t => (true, t)) → Sub H0 H' → Q (.slice b' n' c') H') :
    ∃ (R48 : Rl) (M49 : Mu), R48 [Value.slice b n c, Value.int IntKind.i64 0] H1 ∧ ∀ (a50 : Option Addr) (k51 k52 : Nat) (n53 : Int) (H54 : PHeap), R48 [Value.slice a50 k51 k52, Value.int IntKind.i64 n53] H54 →
      (decide (n53 < (q : Int)) = true → Ob (a ≠ none ∧ 0 ≤ n53 ∧ n53 < (q : Int)) ∧ ∃ s55, Reads H54 (elemA a n53 1) [Value.string s55] ∧
        EvV Tryd.prog (convert 9 23 (Value.string s55)) H54 fun v56 H57 => ∃ a58 k59 k60, v56 = Value.slice a58 k59 k60 ∧ ∀ (k61 : Nat), H57 k61 = none →
          EvV Tryd.prog (Builtin.append_ #[40, 40] 40 #[Value.slice a50 k51 k52, Value.slice (at0 k61) 1 1]) (H57.upd k61 (Obj.cells #[Value.bool true, Value.slice a58 k59 k60] 43)) fun v62 H63 =>
            ∃ a64 k65 k66, v62 = Value.slice a64 k65 k66 ∧ R48 [Value.slice a64 k65 k66, Value.int IntKind.i64 (IntKind.i64.wrap (n53 + 1))] H63 ∧ Less (M49 [Value.slice a64 k65 k66, Value.int IntKind.i64 (IntKind.i64.wrap (n53 + 1))] H63) (M49 [Value.slice a50 k51 k52, Value.int IntKind.i64 n53] H54)) ∧
      (decide (n53 < (q : Int)) = false → Q (Value.slice a50 k51 k52) H54) := by
  have hql := hts.len
  refine ⟨fun t H' => match t with | [.slice b' n' c', .int _ i] => 0 ≤ i ∧ i ≤ q ∧ n' ≤ 1 + i ∧ ∃ G vs', Sub H0 G ∧ Sub G H' ∧ Off G b' ∧ OwnL H' 43 tE 2 b' n' c' vs' ∧ StR G vs' (xs ++ (ts.take i.toNat).map fun t => (true, t)) | _ => False, fun t _ => match t with | [_, .int _ i] => (q - i).toNat | _ => 0,
    ⟨by omega, by omega, by omega, H0, vs, Sub.refl _, hs, hb, how, by simpa using hst⟩, ?_⟩
  rintro b' n' c' i H2 ⟨i0, i1, i2, G, vs', hg0, hg, hof, how', hst'⟩
  obtain ⟨i, rfl⟩ : ∃ j : Nat, i = j := ⟨i.toNat, by omega⟩
  rw [Int.toNat_natCast] at hst'
  refine ⟨fun hi => ?_, fun hi => ?_⟩
  · have hi' : i < q := by simpa using hi
    have hts2 := hts.mono (hg0.trans hg)
    obtain ⟨t, ht, htr⟩ := hts2.ex (i := (i : Int)) (by omega) (by omega)
    rw [Int.toNat_natCast] at ht
    refine ⟨hts2.ob (by omega) (by omega), t, htr, str_bytes (e := 5) (by kernel_rfl) (by kernel_rfl) (by kernel_rfl) fun kb cb H3 hkb hrd hs3 => ⟨_, _, _, rfl, fun k61 hk61 => ?_⟩⟩
    have how3 := how'.mono (H' := H3) fun a o _ ho => hs3.le _ _ ho
    have hGs : Sub (fun k => if k = kb then H3 k else G k) H3 := ⟨fun k o hk => by
      split at hk
      · exact hk
      · exact hs3.le _ _ (hg.le _ _ hk)⟩
    have hGg : Sub G (fun k => if k = kb then H3 k else G k) := ⟨fun k o hk => by
      split
      · rename_i e; rw [e] at hk; have := hg.le _ _ hk; rw [hkb] at this; cases this
      · exact hk⟩
    have hGo : Off (fun k => if k = kb then H3 k else G k) b' := fun a' ha => by
      show (if a'.block = kb then H3 a'.block else G a'.block) = none
      rw [if_neg fun e => ?_]
      · exact hof a' ha
      · obtain ⟨c1, r1, h1⟩ := own_ty how' a' ha
        rw [e, hkb] at h1; cases h1
    refine append_one tSta (E := tE) (x := ⟨true, ⟨at0 kb, t.size, cb⟩⟩) hk61 tLen how3 rfl (tOne _) (by simp [maxLen]; omega) (by omega) ?_
    intro b2 c2 H4 how4 hf4 hfr4 _
    rw [wrap64 (by omega) (by omega)]
    refine ⟨b2, n' + 1, c2, rfl, ⟨by omega, by omega, by omega, _, _, hg0.trans hGg, hf4.sub hGs hGo, hfr4.off hGs hGo, how4, ?_⟩, ⟨by simp only; omega⟩⟩
    rw [show ((i : Int) + 1).toNat = i + 1 by omega, List.take_add_one, ht, List.map_append, ← List.append_assoc]
    refine (hst'.mono hGg).add rfl ?_
    exact hrd.part fun a' o ha ho => by cases ha; simpa using ho
  · have hi' : ¬ i < q := by simpa using hi
    rw [List.take_of_length_le (by omega)] at hst'
    exact hQ _ _ _ vs' _ how' (hst'.mono hg) (hg0.trans hg)
theorem can_ok (hT : Tabs F T) (h : MapK F H m sl ops R) (G : Good ds D) (hR : InAll ds D R) (s : ByteArray) :
    Triple Tryd.prog 8 #[.pointer (at0 m), .string s] H fun v H' => ∃ u vs L, v = slV u ∧ RdL H' tE 2 u.a u.n vs ∧ StR H' vs L ∧ IsCan (R s) L ∧ L.length ≤ 10001 ∧ u.n ≤ u.c ∧ Sub H H' := by
  refine mCan.vc (at0 m) s H _ ⟨fun e => by simp [at0] at e, fun _ => makeMap_mp fun mb hmb => ⟨some mb, rfl, ?_⟩⟩
  have hs0 := Sub.upd (H := H) (.map #[] 0) hmb
  have hmp0 := Mp.new H mb Value.string (Value.int .i64)
  refine (of_ok (h.mono hs0) s).mono ?_
  rintro _ H1 ⟨u, xs, rfl, hu, hRx, hxl, hs1⟩
  obtain ⟨vs, hl, hr, hty⟩ := hu.out
  have hln := hl.len
  refine ⟨u.a, u.n, u.c, rfl, (all_ok ((hT.mono h.sub).mono (hs0.trans hs1)) (U := uni ds D) hl hr (by have := hr.1; omega) (fun x hx => mem_uni.2 (hR s x ((hRx x).2 ⟨x, hx, .refl⟩))) (fun x hx z hz => mem_uni.2 (next_in G (mem_uni.1 hx) hz)) (fun x hx => G.ok (mem_uni.1 hx)) G.ulen).mono ?_⟩
  rintro _ H2 ⟨b, n, q, vs', ys, rfl, hl2, hr2, hnd, hys, hyU, hs2⟩
  have hln2 := hl2.len
  have hrl2 := hr2.1
  have hyl : ys.length ≤ 5000 := Nat.le_trans (nodup_len hnd hyU) G.ulen
  have hyR : ∀ y, y ∈ ys ↔ R s y := fun y => by rw [hys, hRx]
  have h02 := hs1.trans hs2
  -- all but the map stays
  have hB : Sub (rest H2 [mb]) H2 := rest_sub _ _
  have hHB : Sub H (rest H2 [mb]) := rest_le (hs0.trans h02) fun k hk => by simp at hk; subst hk; exact hmb
  have hmp2 := hmp0.mono (H' := H2) fun o ho => h02.le _ _ ho
  have hmc : ∀ c e r, H2 mb ≠ some (.cells c e r) := fun c e r hk => by
    obtain ⟨es, ck, g1, _⟩ := hmp2.out
    rw [g1] at hk; cases hk
  have hlB := rd_rest hmc hl2
  have hx : ∀ (i : Nat) v, vs'[i]? = some v → ∃ y, ys[i]? = some y ∧ v.p = y.p ∧ v.d = y.d := fun i v hv => by
    obtain ⟨y, hy, hvy⟩ := hr2.get hv
    exact ⟨y, hy, hvy.p, hvy.d⟩
  refine ⟨b, n, q, rfl, fun t H' => match t with | [.slice a k r, .bool ab, .int _ i] => 0 ≤ i ∧ i ≤ n ∧ k ≤ i ∧ (ab = true ↔ ∃ y ∈ ys.take i.toNat, y.p = false) ∧ ∃ ts, CanK (rest H2 [mb]) H' mb a k r ts i.toNat ∧ ∀ t, t ∈ ts ↔ ∃ y ∈ ys.take i.toNat, y.p = true ∧ y.d = t | _ => False, fun t _ => match t with | [_, _, .int _ i] => (n - i).toNat | _ => 0,
    ⟨by omega, by omega, by omega, by simp, [], ⟨hB, rest_none (by simp), Off.none _, Owns.nil .., List.nodup_nil, [], hmp2, fun t => by simp [mlook], fun t v h => by simp [mlook] at h⟩, by simp⟩, ?_⟩
  rintro a k r ab i H3 ⟨i0, i1, i2, hab, ts, hc, hts⟩
  obtain ⟨i, rfl⟩ : ∃ j : Nat, i = j := ⟨i.toNat, by omega⟩
  rw [Int.toNat_natCast] at hab hc hts
  have hkl := (hc.own.rd (E := strE) (sz := 1) (by omega) stLen).len
  refine ⟨fun hi => ?_, fun hi => ?_⟩
  · have hi' : i < n := by simpa using hi
    have hl3 := hlB.mono hc.sub
    obtain ⟨v, hv, hvr⟩ := hl3.ex (i := (i : Int)) (by omega) (by omega)
    rw [Int.toNat_natCast] at hv
    obtain ⟨y, hy, hp, hd⟩ := hx i v hv
    have ei : ((i : Int) + 1).toNat = i + 1 := by omega
    have less : Less ((n : Int) - ((i : Int) + 1)).toNat ((n : Int) - i).toNat := ⟨by omega⟩
    have htk : ys.take (i + 1) = ys.take i ++ [y] := by rw [List.take_add_one, hy]; rfl
    rw [wrap64 (n := (i : Int) + 1) (by omega) (by omega)]
    refine ⟨hl3.ob (by omega) (by omega), v.p, v.d, v.a, v.n, v.c, hvr, fun e => ?_, fun e => ?_⟩
    · have hpf : y.p = false := by rw [← hp]; simpa using e
      refine ⟨⟨by omega, by omega, by omega, ?_, ts, ?_, fun t => ?_⟩, less⟩
      · rw [ei, htk]; simp [hpf]
      · rw [ei]
        obtain ⟨ml, g1, g2, g3⟩ := hc.map
        exact ⟨hc.sub, hc.o, hc.off, hc.own, hc.nd, ml, g1, g2, fun t v hv => ⟨(g3 t v hv).1, by have := (g3 t v hv).2; omega⟩⟩
      · rw [ei, htk, hts]; simp [hpf]
    · have hpt : y.p = true := by rw [← hp]; simpa using e
      obtain ⟨ml, g1, g2, g3⟩ := hc.map
      have hgd : ((mlook ml v.d).map (Value.int .i64)).getD (.int .i64 0) = .int .i64 ((mlook ml v.d).getD 0) := by cases mlook ml v.d <;> rfl
      have hcnt : 0 ≤ (mlook ml v.d).getD 0 ∧ (mlook ml v.d).getD 0 ≤ i := by
        cases hm : mlook ml v.d with
        | none => exact ⟨Int.le_refl _, by simp⟩
        | some w => have := g3 _ _ hm; exact ⟨by simp only [Option.getD_some]; omega, by simp only [Option.getD_some]; omega⟩
      refine map_get mapS g1 (k := v.d) ⟨(mlook ml v.d).getD 0, by rw [if_neg (by simp)]; exact hgd, ?_⟩
      rw [wrap64 (by omega) (by omega)]
      refine map_put mapS g1 fun o hm2 => map_get mapS hm2 (k := v.d) ⟨(mlook ml v.d).getD 0 + 1, ?_, fun e2 => ?_, fun e2 => ?_⟩
      · rw [if_neg (by simp), mlook_lay, if_pos rfl]; rfl
      all_goals have hsB : Sub (rest H2 [mb]) (H3.upd mb o) := Bx.sub_of hc.sub hc.o
      all_goals have hown : OwnL (H3.upd mb o) 9 strE 1 a k r ts := hc.own.mono fun a' o' ha ho => by
                  rw [upd_ne _ _ fun e => ?_]
                  · exact ho
                  · obtain ⟨c1, r1, h1⟩ := own_ty hc.own a' ha
                    obtain ⟨es, ck, q1, _⟩ := g1.out
                    rw [e, q1] at h1; cases h1
      all_goals have hall : ∀ t w, mlook (mlay ml v.d ((mlook ml v.d).getD 0 + 1)) t = some w → 1 ≤ w ∧ w ≤ ((i + 1 : Nat) : Int) := fun t w hw => by
                  rw [mlook_lay] at hw
                  split at hw
                  · cases hw; omega
                  · have := g3 t w hw; omega
      · have e0 : (mlook ml v.d).getD 0 = 0 := by simp at e2; omega
        have hno : v.d ∉ ts := fun hm => by
          obtain ⟨w, hw⟩ := Option.isSome_iff_exists.1 ((g2 v.d).1 hm)
          have := g3 _ _ hw
          rw [hw] at e0; simp at e0; omega
        intro k34 hk34
        refine append_one tSt (E := strE) (x := v.d) hk34 stLen hown rfl (stOne _) (by simp [maxLen]; omega) (by omega) ?_
        intro a' r' H5 how hf hfr _
        refine ⟨a', k + 1, r', rfl, ⟨by omega, by omega, by omega, ?_, ts ++ [v.d], ?_, fun t => ?_⟩, less⟩
        · rw [ei, htk, hab]; simp [hpt]
        · rw [ei]
          refine ⟨hf.sub hsB hc.off, hc.o, hfr.off hsB hc.off, how, List.nodup_append.2 ⟨hc.nd, by simp, fun a1 ha1 b1 hb1 e7 => by simp at hb1; rw [e7, hb1] at ha1; exact hno ha1⟩, _, hm2.mono fun o' ho => hf _ _ ho fun a1 ha e7 => ?_, fun t => ?_, hall⟩
          · obtain ⟨c1, r1, h1⟩ := own_ty hown a1 ha
            obtain ⟨es, ck, q1, _⟩ := hm2.out
            rw [← e7, q1] at h1; cases h1
          · rw [mlook_lay, List.mem_append]
            by_cases e7 : t = v.d
            · simp [e7]
            · rw [if_neg e7, ← g2]; simp [e7]
        · rw [ei, htk, List.mem_append, hts]
          simp only [List.mem_append, List.mem_singleton]
          constructor
          · rintro (⟨y', h1, h2⟩ | h)
            · exact ⟨y', .inl h1, h2⟩
            · exact ⟨y, .inr rfl, hpt, by rw [h, hd]⟩
          · rintro ⟨y', h1 | rfl, h2⟩
            · exact .inl ⟨y', h1, h2⟩
            · exact .inr (by rw [← h2.2, hd])
      · have hin : v.d ∈ ts := Classical.byContradiction fun hno => by
          have : mlook ml v.d = none := by
            cases hm : mlook ml v.d with
            | none => rfl
            | some w => exact absurd ((g2 v.d).2 (by rw [hm]; rfl)) hno
          rw [this] at e2; simp at e2
        refine ⟨⟨by omega, by omega, by omega, ?_, ts, ?_, fun t => ?_⟩, less⟩
        · rw [ei, htk, hab]; simp [hpt]
        · rw [ei]
          refine ⟨hsB, hc.o, hc.off, hown, hc.nd, _, hm2, fun t => ?_, hall⟩
          rw [mlook_lay]
          by_cases e7 : t = v.d
          · simp [e7, hin]
          · rw [if_neg e7]; exact g2 t
        · rw [ei, htk, hts]
          simp only [List.mem_append, List.mem_singleton]
          constructor
          · rintro ⟨y', h1, h2⟩; exact ⟨y', .inl h1, h2⟩
          · rintro ⟨y', h1 | rfl, h2⟩
            · exact ⟨y', h1, h2⟩
            · exact (hts t).1 (by rw [← h2.2, ← hd]; exact hin)
  · have hi' : ¬ i < n := by simpa using hi
    rw [List.take_of_length_le (by omega)] at hab hts
    have h4' : Owns H3 9 1 a k r ((ts.map ofB).map (fun l : List UInt8 => Value.string ⟨l.toArray⟩)) := by rw [← flat_str]; exact hc.own
    refine (sort_ok sortS h4' (by omega)).mono ?_
    rintro _ H4 ⟨rfl, g4, hf4⟩
    rw [flat_back] at g4
    have hR' := sorted_rising hc.nd
    have hrd4 := Owns.rd (E := strE) (sz := 1) (by omega) stLen g4
    have hs4 : Sub H H4 := hHB.trans (hf4.sub hc.sub hc.off)
    have hcan : ∀ (ab' : Bool), ab' = ab → IsCan (R s) ((if ab' then [(false, ⟨#[]⟩)] else []) ++ (((ts.map ofB).mergeSort fun x y => decide (x ≤ y)).map toB).map fun t => (true, t)) := fun ab' e => ⟨ab', _, rfl, by
      rw [e, hab]; exact ⟨fun ⟨y, hy, hp⟩ => ⟨y, (hyR y).1 hy, hp⟩, fun ⟨y, hy, hp⟩ => ⟨y, (hyR y).2 hy, hp⟩⟩, hR'.1, fun t => by
      rw [hR'.2, hts]; exact ⟨fun ⟨y, hy, hp⟩ => ⟨y, (hyR y).1 hy, hp⟩, fun ⟨y, hy, hp⟩ => ⟨y, (hyR y).2 hy, hp⟩⟩⟩
    have hlen : (((ts.map ofB).mergeSort fun x y => decide (x ≤ y)).map toB).length = k := by rw [List.length_map, List.length_mergeSort, List.length_map]; exact hkl
    refine ⟨rfl, fun e => ?_, fun e => ?_⟩
    · intro k42 hk42
      refine append_one tSta (E := tE) (l := []) (x := ⟨false, ⟨none, 0, 0⟩⟩) hk42 tLen (Owns.nil ..) rfl (tOne _) (by simp [maxLen]) (by omega) ?_
      intro b5 c5 H5 how5 hf5 hfr5 _
      have hs5 : Sub H4 H5 := hf5.sub (Sub.refl _) (Off.none _)
      refine ⟨b5, 0 + 1, c5, rfl, states_ok (Q := fun v H' => ∃ u vs L, v = slV u ∧ RdL H' tE 2 u.a u.n vs ∧ StR H' vs L ∧ IsCan (R s) L ∧ L.length ≤ 10001 ∧ u.n ≤ u.c ∧ Sub H H') (xs := [(false, ⟨#[]⟩)]) hs5 hrd4 (by omega) how5 ⟨rfl, fun j w x hw hx => ?_⟩ (hfr5.off (Sub.refl _) (Off.none _)) (by omega) fun b' n' c' vs2 H' ho hst hs' => ?_⟩
      · match j, hw, hx with
        | 0, hw, hx => simp at hw hx; subst hw hx; exact ⟨rfl, RdL.nil ..⟩
        | j + 1, hw, _ => simp at hw
      · exact ⟨⟨b', n', c'⟩, vs2, _, rfl, ho.rd (by omega) tLen, hst, hcan true e.symm, by simp [hkl]; omega, ho.le, hs4.trans hs'⟩
    · refine states_ok (Q := fun v H' => ∃ u vs L, v = slV u ∧ RdL H' tE 2 u.a u.n vs ∧ StR H' vs L ∧ IsCan (R s) L ∧ L.length ≤ 10001 ∧ u.n ≤ u.c ∧ Sub H H') (xs := []) (vs := []) (Sub.refl _) hrd4 (by omega) (Owns.nil ..) ⟨rfl, fun j w x hw => by simp at hw⟩ (Off.none _) (by omega) fun b' n' c' vs2 H' ho hst hs' => ?_
      exact ⟨⟨b', n', c'⟩, vs2, _, rfl, ho.rd (by omega) tLen, hst, hcan false e.symm, by simp [hkl]; omega, ho.le, hs4.trans hs'⟩
theorem can_nil (H : PHeap) (s : ByteArray) : Triple Tryd.prog 8 #[.pointer none, .string s] H fun v H' => v = .slice none 0 0 ∧ H' = H :=
  mCan.vc none s H _ ⟨fun _ => ⟨rfl, rfl⟩, fun e => by simp at e⟩
theorem take_nil (H : PHeap) (ev : EvW) : Triple Tryd.prog 6 #[.pointer none, .agg (evE ev).toArray] H fun v H' => v = .bool false ∧ H' = H :=
  mTake.vc none ev.kind ev.id ev.ballot ev.op.k ev.op.s ev.op.a ev.op.n ev.op.c ev.an.e ev.an.size ev.an.d.a ev.an.d.n ev.an.d.c ev.an.n.a ev.an.n.n ev.an.n.c H _ ⟨fun _ => ⟨rfl, rfl⟩, fun e => by simp at e⟩
end
end Go.Mdl
