/- The contracts of a round's methods: Got, Tick; messages that are the same. -/
import Derived.Test.YthcfmcmmmpfjoaaRndB
namespace Go.Rnd
open Go.Vx Go.Vc Go.Proofs

theorem flat_int (l : List Int) : l.flatMap iE = l.map (Value.int .i64) := by
  induction l with
  | nil => rfl
  | cons x xs ih => rw [List.flatMap_cons, ih]; rfl
/-- The keys of these places. -/
def keysAt (got : List (Int × Msg)) (js : List Nat) : List Int := js.filterMap fun j => (got[j]?).map (·.1)
theorem keysAt_perm {got : List (Int × Msg)} {js : List Nat} (h : js.Perm (List.range got.length)) : (keysAt got js).Perm (got.map (·.1)) := by
  have h1 := h.filterMap fun j => (got[j]?).map (·.1)
  have h2 : (List.range got.length).filterMap (fun j => (got[j]?).map (·.1)) = got.map (·.1) := by
    have : ∀ l : List (Int × Msg), (List.range l.length).filterMap (fun j => (l[j]?).map (·.1)) = l.map (·.1) := by
      intro l
      induction l with
      | nil => rfl
      | cons x xs ih =>
        rw [List.length_cons, List.range_succ_eq_map, List.filterMap_cons]
        simp only [List.getElem?_cons_zero, Option.map_some, List.filterMap_map, Function.comp_def, List.getElem?_cons_succ, List.map_cons]
        rw [ih]
    exact this got
  rw [h2] at h1
  exact h1
theorem keysAt_snoc {got : List (Int × Msg)} {js : List Nat} {j : Nat} {x : Int × Msg} (hx : got[j]? = some x) : keysAt got (js ++ [j]) = keysAt got js ++ [x.1] := by
  unfold keysAt
  rw [List.filterMap_append]
  simp [hx]
theorem keysAt_len {got : List (Int × Msg)} (js : List Nat) : (keysAt got js).length ≤ js.length := List.length_filterMap_le _ _
/-- What is told: the answers, by rising keys. -/
structure GotL (got : List (Int × Msg)) (K : List Int) : Prop where
  perm : K.Perm (got.map (·.1))
  rise : K.Pairwise (· ≤ ·)
theorem got_own {F H : PHeap} {k : Nat} {asks : List Msg} {wait : List Int} {got : List (Int × Msg)} {tries : Int} (h : RdS F H k asks wait got tries) (hg : got.length ≤ 100000) :
    Triple Try.prog 40 #[.pointer (at0 k)] H fun v H' => ∃ b n c K, v = .slice b n c ∧ GotL got K ∧ RdL H' mE 13 b n (K.map fun i => (mlook got i).getD z0) ∧ Sub H H' ∧ Off H b := by
  obtain ⟨oa, n, c, ob, m, d, gb, h1, h2, h3, h4, h5, h6, h7, h8⟩ := h.row
  have r2 : ∀ {G : PHeap}, Sub H G → Reads G (fldA (at0 k) 2) [.map (some gb)] := fun hs => (h1.sub hs).readsAt 2 (fun j v hv => by
    match j, hv with
    | 0, hv => simpa using hv
    | j + 1, hv => simp at hv)
  refine gotR.vc (at0 k) H _ ⟨fun e => by simp [at0] at e, fun _ => ⟨neP k, neP k, some gb, r2 (Sub.refl _), map_range mapT h4 fun r o hr hit => ?_⟩⟩
  have hsr := Sub.upd o hr
  refine ⟨at0 r, rfl, fun t H' => match t with | [.slice b q kk] => ∃ js o, It H' r gb (Value.int .i64) vM got js ∧ H' r = some o ∧ Sub H H' ∧ OwnL H' 3 iE 1 b q kk (keysAt got js) ∧ Off (H.upd r o) b | _ => False, fun t H' => match H' r with | some (.mapIter _ _ seen _) => got.length - seen.size | _ => 0, ⟨[], o, hit, upd_eq .., hsr, Owns.nil _ _ 1, Off.none _⟩, ?_⟩
  rintro b q kk H1 ⟨js, o1, hit1, ho1, hs1, how1, hoff1⟩
  have hlen1 : (keysAt got js).length = q := (how1.rd (E := iE) (sz := 1) (by omega) iLen).len
  have hcnt := hit1.count
  have hkl := keysAt_len (got := got) js
  refine map_next hit1 (fun hall => .inl ⟨rfl, fun e => (by cases e), fun _ => ?_⟩) (fun j x o2 hx hj hit2 => .inr ⟨_, _, rfl, fun _ => ?_, fun e => by cases e⟩)
  · -- sorted
    have hperm := keysAt_perm (hit1.all hall)
    have how1' : Owns H1 3 1 b q kk ((keysAt got js).map (Value.int .i64)) := by rw [← flat_int]; exact how1
    refine (sort_ok sortI how1' (by omega)).mono ?_
    rintro _ H2 ⟨rfl, how2, hf2⟩
    have hoffH : Off H b := fun a ha => by
      have := hoff1 a ha
      by_cases e : a.block = r
      · rw [e]; exact hr
      · rwa [Vx.upd_ne _ _ e] at this
    have hs2 : Sub H H2 := hf2.sub hs1 hoffH
    have hK : GotL got ((keysAt got js).mergeSort fun x y => decide (x ≤ y)) := ⟨(List.mergeSort_perm _ _).trans hperm, by
      have := List.pairwise_mergeSort (le := fun x y : Int => decide (x ≤ y)) (fun a b c h1 h2 => by simp at *; omega) (fun a b => by simp; omega) (keysAt got js)
      exact this.imp fun h => by simpa using h⟩
    have hKl : ((keysAt got js).mergeSort fun x y => decide (x ≤ y)).length = q := by rw [List.length_mergeSort, hlen1]
    generalize ((keysAt got js).mergeSort fun x y => decide (x ≤ y)) = K at *
    rw [← flat_int] at how2
    have hrdK := Owns.rd (E := iE) (sz := 1) (by omega) iLen how2
    refine ⟨rfl, fun t H' => match t with | [.slice b' q' k', .int _ i] => 0 ≤ i ∧ i ≤ q ∧ Sub H2 H' ∧ OwnL H' 32 mE 13 b' q' k' ((K.take i.toNat).map fun i => (mlook got i).getD z0) ∧ Off H2 b' | _ => False, fun t _ => match t with | [_, .int _ i] => (q - i).toNat | _ => 0, ⟨by omega, by omega, Sub.refl _, Owns.nil _ _ 13, Off.none _⟩, ?_⟩
    rintro b3 q3 k3 i H3 ⟨i0, i1, hs3, how3, hoff3⟩
    obtain ⟨i, rfl⟩ : ∃ j : Nat, i = j := ⟨i.toNat, by omega⟩
    rw [Int.toNat_natCast] at how3
    have hl3 := (how3.rd (E := mE) (sz := 13) (by omega) mLen).len
    rw [List.length_map, List.length_take] at hl3
    have hrd3 := hrdK.mono hs3
    refine ⟨fun hi => ?_, fun hi => ?_⟩
    · have hi' : i < q := by simpa using hi
      obtain ⟨y, hy, hyr⟩ := hrd3.ex (i := (i : Int)) (by omega) (by omega)
      rw [Int.toNat_natCast] at hy
      refine ⟨hrd3.ob (by omega) (by omega), y, hyr, neP k, neP k, some gb, r2 (hs2.trans hs3), map_get mapT (h4.mono fun o ho => (hs2.trans hs3).le _ _ ho) ?_⟩
      rw [if_neg (by simp), getD_vM]
      have htk : (K.take (i + 1)).map (fun i => (mlook got i).getD z0) = (K.take i).map (fun i => (mlook got i).getD z0) ++ [(mlook got y).getD z0] := by rw [List.take_add_one, hy]; simp
      have hone := mOne ((mlook got y).getD z0)
      rw [wrapS (by omega) (by omega)]
      generalize hM : (mlook got y).getD z0 = M at *
      obtain ⟨y1, y2, y3, y4, y5, y6, y7, y8, y9, y10, ⟨ya, yb, yc, yl⟩, ⟨za, zb, zc, zl⟩, ⟨wa, wb, wc, wl⟩⟩ := M
      refine ⟨y1, y2, y3, y4, y5, y6, y7, y8, y9, y10, ya, yb, yc, za, zb, zc, wa, wb, wc, rfl, fun k4 hk4 => ?_⟩
      refine append_one tM hk4 (E := mE) (x := (y1, y2, y3, y4, y5, y6, y7, y8, y9, y10, ⟨ya, yb, yc, yl⟩, ⟨za, zb, zc, zl⟩, ⟨wa, wb, wc, wl⟩)) mLen how3 rfl hone (by simp [maxLen]; omega) (by omega) ?_
      intro b5 c5 H5 g5 hf5 hfr5 _
      refine ⟨b5, _, c5, rfl, ⟨by omega, by omega, hf5.sub hs3 hoff3, ?_, hfr5.off hs3 hoff3⟩, ⟨by simp only; omega⟩⟩
      rw [show ((i : Int) + 1).toNat = i + 1 by omega, htk]
      exact g5
    · have : ¬ i < q := by simpa using hi
      rw [List.take_of_length_le (by omega)] at how3
      exact ⟨b3, q3, k3, K, rfl, hK, how3.rd (E := mE) (sz := 13) (by omega) mLen, hs2.trans hs3, hoff3.sub hs2⟩
  · -- one more
    have hs2 : Sub H (H1.upd r o2) := Bx.sub_of hs1 hr
    refine map_entry_at hit2 hx ?_
    obtain ⟨key, y1, y2, y3, y4, y5, y6, y7, y8, y9, y10, ⟨ya, yb, yc, yl⟩, ⟨za, zb, zc, zl⟩, ⟨wa, wb, wc, wl⟩⟩ := x
    refine ⟨key, y1, y2, y3, y4, y5, y6, y7, y8, y9, y10, ya, yb, yc, za, zb, zc, wa, wb, wc, rfl, fun k4 hk4 => ?_⟩
    have hbr : ∀ a, b = some a → a.block ≠ r := fun a ha e => by
      have := hoff1 a ha
      rw [e, upd_eq] at this; cases this
    have how2 : OwnL (H1.upd r o2) 3 iE 1 b q kk (keysAt got js) := Owns.mono how1 fun a o ha hb => by rw [Vx.upd_ne _ _ (hbr a ha)]; exact hb
    have hcnt2 := hit2.count
    rw [List.length_append, List.length_singleton] at hcnt2
    refine append_one tI hk4 (E := iE) (x := key) iLen how2 rfl (iOne key) (by simp [maxLen]; omega) (by omega) ?_
    intro b5 c5 H5 g5 hf5 hfr5 _
    have hr5 : H5 r = some o2 := hf5 r o2 (upd_eq ..) fun a ha e => hbr a ha e.symm
    have hoffU : Off (H.upd r o2) b := fun a ha => by
      rw [Vx.upd_ne _ _ (hbr a ha)]
      have := hoff1 a ha
      rwa [Vx.upd_ne _ _ (hbr a ha)] at this
    have hsU : Sub (H.upd r o2) (H1.upd r o2) := ⟨fun q' o' hq => by
      by_cases e : q' = r
      · subst e; rw [upd_eq] at hq ⊢; exact hq
      · rw [Vx.upd_ne _ _ e] at hq ⊢; exact hs1.le _ _ hq⟩
    have hgbr : gb ≠ r := fun e => by
      obtain ⟨es, c', g1, _⟩ := h4.out
      rw [e, hr] at g1; cases g1
    have hit5 : It H5 r gb (Value.int .i64) vM got (js ++ [j]) := hit2.mono (fun o' ho' => by rw [upd_eq] at ho'; cases ho'; exact hr5) (fun o' ho' => hf5 gb o' ho' fun a ha e => by
      have h9 := hoffU a ha
      obtain ⟨es, c', g1, _⟩ := h4.out
      rw [Vx.upd_ne _ _ (hbr a ha), ← e, g1] at h9; cases h9)
    refine ⟨b5, _, c5, rfl, ⟨js ++ [j], o2, hit5, hr5, hf5.sub hs2 fun a ha => by have := hoffU a ha; rwa [Vx.upd_ne _ _ (hbr a ha)] at this, ?_, hfr5.off hsU hoffU⟩, ?_⟩
    · rw [keysAt_snoc hx]; exact g5
    · obtain ⟨es1, c1, sn1, e1, e2, e3, e4, e5⟩ := hit1.out
      obtain ⟨es2, c2, sn2, f1, f2, f3, f4, f5⟩ := hit5.out
      have hsz : ∀ {G : PHeap} {js : List Nat} {es : Array MapEntry} {sn : Array Nat}, es.toList.map (fun e => (e.key, e.val)) = got.map (fun x => (Value.int .i64 x.1, vM x.2)) → sn.toList = js.filterMap (fun j => (es.toList[j]?).map (·.born)) → (∀ j ∈ js, j < got.length) → sn.size = js.length := by
        intro G js es sn hen hsn hlt
        have hel : es.toList.length = got.length := by have := congrArg List.length hen; simpa using this
        have : sn.toList.length = js.length := by
          rw [hsn]
          clear hsn
          induction js with
          | nil => rfl
          | cons a bs ih =>
            have ha : a < es.toList.length := by rw [hel]; exact hlt a (by simp)
            rw [List.filterMap_cons, List.getElem?_eq_getElem ha]
            simp only [Option.map_some, List.length_cons]
            rw [ih fun j hj => hlt j (by simp [hj])]
        simpa using this
      have s1 := hsz (G := H1) e2 e5 hit1.lt
      have s2 := hsz (G := H5) f2 f5 hit5.lt
      rw [List.length_append, List.length_singleton] at s2
      refine ⟨?_⟩
      simp only [e4, f4]
      omega
theorem got_ok {F H : PHeap} {k : Nat} {asks : List Msg} {wait : List Int} {got : List (Int × Msg)} {tries : Int} (h : RdS F H k asks wait got tries) (hg : got.length ≤ 100000) :
    Triple Try.prog 40 #[.pointer (at0 k)] H fun v H' => ∃ b n c K, v = .slice b n c ∧ GotL got K ∧ RdL H' mE 13 b n (K.map fun i => (mlook got i).getD z0) ∧ Sub H H' :=
  (got_own h hg).mono fun _ _ ⟨b, n, c, K, e, h1, h2, h3, _⟩ => ⟨b, n, c, K, e, h1, h2, h3⟩
theorem got_nil (H : PHeap) : Triple Try.prog 40 #[.pointer none] H fun v H' => v = .slice none 0 0 ∧ H' = H := gotR.vc none H _ ⟨fun _ => ⟨rfl, rfl⟩, fun h => by simp at h⟩
end Go.Rnd
