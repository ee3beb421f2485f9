/- What counts, by what several say: the plain words, and the contracts of its small functions. -/
import Derived.Test.YthcfmcmmmpfjoaaRndE
import Derived.Test.YthcfmcmmmpfjoaaPlnA
import Derived.Test.YthcfmcmmmpfjoaaVcSettle
namespace Go.Stl
open Go.Vx Go.Vc Go.Proofs Go.Pln

abbrev Msg := Rnd.Msg
abbrev mE := Rnd.mE
abbrev vM (m : Msg) : Value := .agg (mE m).toArray
abbrev iE : Int → List Value := intE .i64
abbrev kind_ (m : Msg) : Int := m.1
abbrev from_ (m : Msg) : Int := m.2.1
abbrev att_ (m : Msg) : Int := m.2.2.2.2.2.1
abbrev ep_ (m : Msg) : Int := m.2.2.2.2.2.2.1
abbrev mark_ (m : Msg) : Int := m.2.2.2.2.2.2.2.1
abbrev sz_ (m : Msg) : Int := m.2.2.2.2.2.2.2.2.1
abbrev what_ (m : Msg) : Int := m.2.2.2.2.2.2.2.2.2.1
abbrev who_ (m : Msg) : Sl Int := m.2.2.2.2.2.2.2.2.2.2.1
/-- What counts of a name. -/
structure Val where
  pr : Bool
  at_ : Int
  ep : Int
  sz : Int
def val0 : Val := ⟨false, 0, 0, 0⟩
abbrev Val.c (v : Val) : List Value := [.bool v.pr, vI v.at_, vI v.ep, vI v.sz]
abbrev Val.v (v : Val) : Value := .agg #[.bool v.pr, vI v.at_, vI v.ep, vI v.sz]
def whoL (m : Msg) (i : Nat) : Int := ((who_ m).l[i]?).getD 0
def ofV (m : Msg) : Val := ⟨true, att_ m, ep_ m, sz_ m⟩
/-- Is a mark said? -/
def markedM (m : Msg) : Bool := kind_ m == 14 && (what_ m == 2 || what_ m == 3 || what_ m == 4)
def valueM (m : Msg) : Val := if kind_ m == 14 && (what_ m == 2 || what_ m == 3) then ofV m else val0
def soundM (m : Msg) : Bool := kind_ m == 14 && whoL m 2 == 1
def leftM (m : Msg) : Bool := kind_ m == 14 && (whoL m 0 != 0 || whoL m 1 != 0)
def cntM (p : Msg → Bool) (L : List Msg) : Nat := (L.filter p).length
def bestStep (s : Int × Val) (m : Msg) : Int × Val := if markedM m && decide (mark_ m > s.1) then (mark_ m, valueM m) else s
def best (L : List Msg) : Int × Val := L.foldl bestStep (0, val0)
def holdsM (v : Val) (m : Msg) : Bool := v.pr && (what_ m == 2) && (att_ m == v.at_) && (ep_ m == v.ep)
def holdL (v : Val) (L : List Msg) : List Int := (L.filter (holdsM v)).map from_
structure Verd where
  enough : Bool
  clean : Bool
  value : Val
  mark : Int
  holders : List Int
def verd0 : Verd := ⟨false, false, val0, 0, []⟩
/-- What counts. -/
def verd (p : Plan) (L : List Msg) : Verd := if p.ok then
    ⟨decide ((cntM soundM L : Int) ≥ p.n - p.w + 1), cntM leftM L == 0 && ((best L).1 == 0 || decide ((cntM (fun m => markedM m && mark_ m == (best L).1) L : Int) ≥ p.w)), (best L).2, (best L).1, holdL (best L).2 (L.filter fun m => kind_ m == 14)⟩
  else verd0
theorem cnt_snoc (p : Msg → Bool) (L : List Msg) (m : Msg) : cntM p (L ++ [m]) = cntM p L + if p m then 1 else 0 := by
  unfold cntM
  rw [List.filter_append, List.length_append]
  cases h : p m <;> simp [h]
theorem cnt_le (p : Msg → Bool) (L : List Msg) : cntM p L ≤ L.length := List.length_filter_le ..
theorem best_snoc (L : List Msg) (m : Msg) : best (L ++ [m]) = bestStep (best L) m := by simp [best]
theorem hold_snoc (v : Val) (L : List Msg) (m : Msg) : holdL v (L ++ [m]) = holdL v L ++ if holdsM v m then [from_ m] else [] := by
  unfold holdL
  rw [List.filter_append, List.map_append]
  congr 1
  cases h : holdsM v m <;> simp [h]
theorem hold_len (v : Val) (L : List Msg) : (holdL v L).length ≤ L.length := by
  unfold holdL
  rw [List.length_map]; exact List.length_filter_le ..
/-! ### The small functions -/
theorem sWho_ok {H : PHeap} {m : Msg} {i : Nat} (h : RdL H iE 1 (who_ m).oa (who_ m).n (who_ m).l) : Triple Try.prog 84 #[vM m, vI i] H fun v H' => v = vI (whoL m i) ∧ H' = H := by
  obtain ⟨y1, y2, y3, y4, y5, y6, y7, y8, y9, y10, ⟨ya, yb, yc, yl⟩, ⟨za, zb, zc, zl⟩, ⟨wa, wb, wc, wl⟩⟩ := m
  have hw : RdL H iE 1 ya yb yl := h
  have hwl := hw.len
  refine sWho.vc y1 y2 y3 y4 y5 y6 y7 y8 y9 y10 ya yb yc za zb zc wa wb wc i H _ ⟨fun e => ?_, fun e => ?_⟩
  · have e' : i < yb := by simpa using e
    obtain ⟨x, hx, hxr⟩ := hw.ex (i := (i : Int)) (by omega) (by omega)
    rw [Int.toNat_natCast] at hx
    exact ⟨hw.ob (by omega) (by omega), x, hxr, by simp [whoL, who_, hx], rfl⟩
  · have e' : ¬ i < yb := by simpa using e
    exact ⟨by simp [whoL, who_, List.getElem?_eq_none (show yl.length ≤ i by omega)], rfl⟩
theorem rWho_ok {H : PHeap} {m : Msg} {i : Nat} (h : RdL H iE 1 (who_ m).oa (who_ m).n (who_ m).l) : Triple Try.prog 79 #[vM m, vI i] H fun v H' => v = vI (whoL m i) ∧ H' = H := by
  obtain ⟨y1, y2, y3, y4, y5, y6, y7, y8, y9, y10, ⟨ya, yb, yc, yl⟩, ⟨za, zb, zc, zl⟩, ⟨wa, wb, wc, wl⟩⟩ := m
  have hw : RdL H iE 1 ya yb yl := h
  have hwl := hw.len
  refine rWho.vc y1 y2 y3 y4 y5 y6 y7 y8 y9 y10 ya yb yc za zb zc wa wb wc i H _ ⟨fun e => ?_, fun e => ?_⟩
  · have e' : yb ≤ i := by simpa using e
    exact ⟨by simp [whoL, who_, List.getElem?_eq_none (show yl.length ≤ i by omega)], rfl⟩
  · have e' : i < yb := by simpa using e
    obtain ⟨x, hx, hxr⟩ := hw.ex (i := (i : Int)) (by omega) (by omega)
    rw [Int.toNat_natCast] at hx
    exact ⟨hw.ob (by omega) (by omega), x, hxr, by simp [whoL, who_, hx], rfl⟩
theorem sValue_ok (m : Msg) : Pure Try.prog 62 #[vM m] (.tuple #[(valueM m).v, .bool (markedM m)]) := fun H => by
  obtain ⟨y1, y2, y3, y4, y5, y6, y7, y8, y9, y10, ⟨ya, yb, yc, yl⟩, ⟨za, zb, zc, zl⟩, ⟨wa, wb, wc, wl⟩⟩ := m
  refine sValue.vc y1 y2 y3 y4 y5 y6 y7 y8 y9 y10 ya yb yc za zb zc wa wb wc H _ ⟨fun e => ?_, fun e => ?_⟩
  · have e' : (y1 == 14) = false := by simpa [bne] using e
    exact ⟨by simp [valueM, markedM, kind_, e', val0], rfl⟩
  · have e' : (y1 == 14) = true := by simpa [bne] using e
    refine fixOf.vc y10 _ y6 y7 0 y9 none 0 0 H _ ⟨fun e2 => ?_, fun e2 => ⟨fun e3 => ?_, fun e3 => ?_⟩⟩
    · have h2 : (y10 == 2 || y10 == 3) = true := by cases h : y10 == 2 <;> simp [h] at e2 ⊢; simpa using e2
      exact ⟨_, _, _, _, _, rfl, by simp only [valueM, markedM, kind_, what_, e', h2, Bool.true_and, Bool.true_or, if_true, ofV, att_, ep_, sz_], rfl⟩
    · have h2 : (y10 == 2 || y10 == 3) = false := by cases h : y10 == 2 <;> simp [h] at e2 ⊢; simpa using e2
      exact ⟨_, _, _, _, _, rfl, by simp [valueM, markedM, kind_, what_, e', h2, e3, val0], rfl⟩
    · have h2 : (y10 == 2 || y10 == 3) = false := by cases h : y10 == 2 <;> simp [h] at e2 ⊢; simpa using e2
      exact ⟨_, _, _, _, _, rfl, by simp [valueM, markedM, kind_, what_, e', h2, e3, val0], rfl⟩
theorem sMarked_ok (m : Msg) : Pure Try.prog 68 #[vM m] (.bool (markedM m)) := fun H => by
  have h := sValue_ok m
  obtain ⟨y1, y2, y3, y4, y5, y6, y7, y8, y9, y10, ⟨ya, yb, yc, yl⟩, ⟨za, zb, zc, zl⟩, ⟨wa, wb, wc, wl⟩⟩ := m
  exact sMarked.vc y1 y2 y3 y4 y5 y6 y7 y8 y9 y10 ya yb yc za zb zc wa wb wc H _ (h.use ⟨_, _, _, _, _, rfl, rfl, rfl⟩)
theorem rMarked_ok (m : Msg) : Pure Try.prog 78 #[vM m] (.bool (markedM m)) := fun H => by
  obtain ⟨y1, y2, y3, y4, y5, y6, y7, y8, y9, y10, ⟨ya, yb, yc, yl⟩, ⟨za, zb, zc, zl⟩, ⟨wa, wb, wc, wl⟩⟩ := m
  refine rMarked.vc y1 y2 y3 y4 y5 y6 y7 y8 y9 y10 ya yb yc za zb zc wa wb wc H _ ⟨?_, rfl⟩
  congr 1
  simp only [markedM, kind_, what_]
  cases h : y1 == 14
  · rfl
  · simp only [cond_true, Bool.true_and]
    rw [Bool.eq_iff_iff]
    by_cases h1 : y10 ≥ 2
    · simp [h1]; omega
    · simp [h1]; omega
theorem rHolds_ok (m : Msg) (v : Val) : Pure Try.prog 80 #[vM m, v.v] (.bool (holdsM v m)) := fun H => by
  obtain ⟨y1, y2, y3, y4, y5, y6, y7, y8, y9, y10, ⟨ya, yb, yc, yl⟩, ⟨za, zb, zc, zl⟩, ⟨wa, wb, wc, wl⟩⟩ := m
  refine rHolds.vc y1 y2 y3 y4 y5 y6 y7 y8 y9 y10 ya yb yc za zb zc wa wb wc v.pr v.at_ v.ep v.sz H _ ⟨?_, rfl⟩
  congr 1
  simp only [holdsM, what_, att_, ep_]
  cases v.pr <;> cases y10 == 2 <;> cases y6 == v.at_ <;> cases y7 == v.ep <;> rfl
theorem sSound_ok {H : PHeap} {m : Msg} (h : RdL H iE 1 (who_ m).oa (who_ m).n (who_ m).l) : Triple Try.prog 65 #[vM m] H fun v H' => v = .bool (soundM m) ∧ H' = H := by
  have hw := sWho_ok (i := 2) h
  obtain ⟨y1, y2, y3, y4, y5, y6, y7, y8, y9, y10, ⟨ya, yb, yc, yl⟩, ⟨za, zb, zc, zl⟩, ⟨wa, wb, wc, wl⟩⟩ := m
  refine sSound.vc y1 y2 y3 y4 y5 y6 y7 y8 y9 y10 ya yb yc za zb zc wa wb wc H _ ⟨fun e => hw.mono ?_, fun e => ?_⟩
  · rintro _ H' ⟨rfl, hH⟩
    obtain rfl := hH.symm
    exact ⟨_, rfl, by simp only [soundM, kind_, e, Bool.true_and], rfl⟩
  · have e' : (y1 == 14) = false := by simpa using e
    exact ⟨by simp only [soundM, kind_, e', Bool.false_and], rfl⟩
theorem sLeft_ok {H : PHeap} {m : Msg} (h : RdL H iE 1 (who_ m).oa (who_ m).n (who_ m).l) : Triple Try.prog 67 #[vM m] H fun v H' => v = .bool (leftM m) ∧ H' = H := by
  have hw0 := sWho_ok (i := 0) h
  have hw1 := sWho_ok (i := 1) h
  obtain ⟨y1, y2, y3, y4, y5, y6, y7, y8, y9, y10, ⟨ya, yb, yc, yl⟩, ⟨za, zb, zc, zl⟩, ⟨wa, wb, wc, wl⟩⟩ := m
  refine sLeft.vc y1 y2 y3 y4 y5 y6 y7 y8 y9 y10 ya yb yc za zb zc wa wb wc H _ ⟨fun e => hw0.mono ?_, fun e => ?_⟩
  · rintro _ H' ⟨rfl, hH⟩
    obtain rfl := hH.symm
    refine ⟨_, rfl, fun e0 => hw1.mono ?_, fun e0 => ?_⟩
    · rintro _ H' ⟨rfl, hH⟩
      obtain rfl := hH.symm
      exact ⟨_, rfl, by simp only [leftM, kind_, e, e0, Bool.true_and, Bool.false_or], rfl⟩
    · have e0' : (whoL (y1, y2, y3, y4, y5, y6, y7, y8, y9, y10, ⟨ya, yb, yc, yl⟩, ⟨za, zb, zc, zl⟩, ⟨wa, wb, wc, wl⟩) 0 != 0) = true := by simpa using e0
      exact ⟨by simp only [leftM, kind_, e, e0', Bool.true_and, Bool.true_or], rfl⟩
  · have e' : (y1 == 14) = false := by simpa using e
    exact ⟨by simp only [leftM, kind_, e', Bool.false_and], rfl⟩
/-! ### Counting -/
abbrev fE (f : Value) : List Value := [f]
theorem count_ok {H : PHeap} {oa ob : Option Addr} {n c k d : Nat} {L : List Msg} {fs : List Value} {ps : List (Msg → Bool)} (hl : RdL H mE 13 oa n L) (hf : RdL H fE 1 ob k fs) (hlen : ps.length = fs.length) (hn : n ≤ 100000) (hk : k ≤ 100000)
    (ht : ∀ (i : Nat) f p, fs[i]? = some f → ps[i]? = some p → ∀ x ∈ L, ∀ Q : Value → PHeap → Prop, Q (.bool (p x)) H → CallY Try.prog f #[vM x] H Q) :
    Triple Try.prog 64 #[.slice oa n c, .slice ob k d] H fun v H' => v = vI (cntM (fun x => ps.all fun p => p x) L) ∧ H' = H := by
  have hll := hl.len
  have hfl := hf.len
  refine sCount.vc oa n c ob k d H _ ⟨fun t H' => match t with | [.int _ z, .int _ i] => 0 ≤ i ∧ i ≤ n ∧ H' = H ∧ z = (cntM (fun x => ps.all fun p => p x) (L.take i.toNat) : Nat) | _ => False, fun t _ => match t with | [_, .int _ i] => (n - i).toNat | _ => 0, ⟨by omega, by omega, rfl, by simp [cntM]⟩, ?_⟩
  rintro z i H11 ⟨i0, i1, hH, rfl⟩
  obtain rfl := hH.symm
  obtain ⟨i, rfl⟩ : ∃ j : Nat, i = j := ⟨i.toNat, by omega⟩
  rw [Int.toNat_natCast]
  have hcl := cnt_le (fun x => ps.all fun p => p x) (L.take i)
  rw [List.length_take] at hcl
  refine ⟨fun hi => ?_, fun hi => ?_⟩
  · have hi' : i < n := by simpa using hi
    obtain ⟨x, hx, hxr⟩ := hl.ex (i := (i : Int)) (by omega) (by omega)
    rw [Int.toNat_natCast] at hx
    have hxm := List.mem_of_getElem? hx
    have hsn : cntM (fun x => ps.all fun p => p x) (L.take (i + 1)) = cntM (fun x => ps.all fun p => p x) (L.take i) + if (ps.all fun p => p x) then 1 else 0 := by
      rw [List.take_add_one, hx]; exact cnt_snoc _ _ _
    have htx := fun i f p h1 h2 => ht i f p h1 h2 x hxm
    generalize hpx : (ps.all fun p => p x) = px at hsn
    have hpi : ∀ (j : Nat) p, ps[j]? = some p → p x = false → px = false := fun j p hp hf => by
      rw [← hpx, List.all_eq_false]; exact ⟨p, List.mem_of_getElem? hp, by simp [hf]⟩
    have hpall : (∀ p ∈ ps, p x = true) → px = true := fun h => by rw [← hpx, List.all_eq_true]; exact h
    obtain ⟨y1, y2, y3, y4, y5, y6, y7, y8, y9, y10, ⟨ya, yb, yc, yl⟩, ⟨za, zb, zc, zl⟩, ⟨wa, wb, wc, wl⟩⟩ := x
    rw [Rnd.wrapS (by omega) (by omega), Rnd.wrapS (by omega) (by omega)]
    refine ⟨hl.ob (by omega) (by omega), y1, y2, y3, y4, y5, y6, y7, y8, y9, y10, ya, yb, yc, za, zb, zc, wa, wb, wc, hxr, fun t H' => match t with | [.int _ j] => 0 ≤ j ∧ j ≤ k ∧ H' = H ∧ ∀ p ∈ ps.take j.toNat, p (y1, y2, y3, y4, y5, y6, y7, y8, y9, y10, ⟨ya, yb, yc, yl⟩, ⟨za, zb, zc, zl⟩, ⟨wa, wb, wc, wl⟩) = true | _ => False, fun t _ => match t with | [.int _ j] => (k - j).toNat | _ => 0, ⟨by omega, by omega, rfl, by simp⟩, ?_⟩
    rintro j H34 ⟨j0, j1, hH, hall⟩
    obtain rfl := hH.symm
    obtain ⟨j, rfl⟩ : ∃ z : Nat, j = z := ⟨j.toNat, by omega⟩
    rw [Int.toNat_natCast] at hall
    refine ⟨fun hj => ?_, fun hj => ?_⟩
    · have hj' : j < k := by simpa using hj
      obtain ⟨f, hfj, hfr⟩ := hf.ex (i := (j : Int)) (by omega) (by omega)
      rw [Int.toNat_natCast] at hfj
      obtain ⟨p, hp⟩ : ∃ p, ps[j]? = some p := ⟨_, List.getElem?_eq_getElem (by omega)⟩
      refine ⟨hf.ob (by omega) (by omega), f, hfr, htx j f p hfj hp _ ⟨_, rfl, fun e => ?_, fun e => ?_⟩⟩
      · have hpf : p (y1, y2, y3, y4, y5, y6, y7, y8, y9, y10, ⟨ya, yb, yc, yl⟩, ⟨za, zb, zc, zl⟩, ⟨wa, wb, wc, wl⟩) = false := by simpa using e
        refine ⟨⟨by omega, by omega, rfl, ?_⟩, ⟨by simp only; omega⟩⟩
        rw [show ((i : Int) + 1).toNat = i + 1 by omega, hsn, hpi j p hp hpf]; simp
      · have hpt : p (y1, y2, y3, y4, y5, y6, y7, y8, y9, y10, ⟨ya, yb, yc, yl⟩, ⟨za, zb, zc, zl⟩, ⟨wa, wb, wc, wl⟩) = true := by simpa using e
        rw [Rnd.wrapS (by omega) (by omega)]
        refine ⟨⟨by omega, by omega, rfl, fun q hq => ?_⟩, ⟨by simp only; omega⟩⟩
        rw [show ((j : Int) + 1).toNat = j + 1 by omega, List.take_add_one, hp] at hq
        rcases List.mem_append.1 hq with hq | hq
        · exact hall q hq
        · simp at hq; subst hq; exact hpt
    · have hj' : ¬ j < k := by simpa using hj
      rw [List.take_of_length_le (by omega)] at hall
      refine ⟨⟨by omega, by omega, rfl, ?_⟩, ⟨by simp only; omega⟩⟩
      rw [show ((i : Int) + 1).toNat = i + 1 by omega, hsn, hpall hall]; simp
  · have hi' : ¬ i < n := by simpa using hi
    rw [List.take_of_length_le (by omega)]
    exact ⟨rfl, rfl⟩
/-! ### Who has a share -/
theorem sHold_ok {H : PHeap} {oa : Option Addr} {n c : Nat} {L : List Msg} {v : Val} (hl : RdL H mE 13 oa n L) (hn : n ≤ 100000) :
    Triple Try.prog 69 #[.slice oa n c, v.v] H fun w H' => ∃ b k q, w = .slice b k q ∧ OwnL H' 3 iE 1 b k q (holdL v L) ∧ Sub H H' ∧ Off H b := by
  have hll := hl.len
  refine sHold.vc oa n c v.pr v.at_ v.ep v.sz H _ ⟨fun t H' => match t with | [.slice b k q, .int _ i] => 0 ≤ i ∧ i ≤ n ∧ OwnL H' 3 iE 1 b k q (holdL v (L.take i.toNat)) ∧ Sub H H' ∧ Off H b | _ => False, fun t _ => match t with | [_, .int _ i] => (n - i).toNat | _ => 0, ⟨by omega, by omega, Owns.nil _ _ 1, Sub.refl _, Off.none _⟩, ?_⟩
  rintro b k q i H14 ⟨i0, i1, ho, hs, hoff⟩
  obtain ⟨i, rfl⟩ : ∃ j : Nat, i = j := ⟨i.toNat, by omega⟩
  rw [Int.toNat_natCast] at ho
  refine ⟨fun hi => ?_, fun hi => ?_⟩
  · have hi' : i < n := by simpa using hi
    have hl14 := hl.mono hs
    obtain ⟨x, hx, hxr⟩ := hl14.ex (i := (i : Int)) (by omega) (by omega)
    rw [Int.toNat_natCast] at hx
    have hkl := (ho.rd (E := iE) (sz := 1) (by omega) Rnd.iLen).len
    have hle := hold_len v (L.take i)
    rw [List.length_take] at hle
    have hsn : holdL v (L.take (i + 1)) = holdL v (L.take i) ++ if holdsM v x then [from_ x] else [] := by rw [List.take_add_one, hx]; exact hold_snoc _ _ _
    have hh : ∀ y10 y6 y7 : Int, what_ x = y10 → att_ x = y6 → ep_ x = y7 → holdsM v x = (bif v.pr then bif y10 == 2 then bif y6 == v.at_ then y7 == v.ep else false else false else false) := by
      rintro _ _ _ rfl rfl rfl
      simp only [holdsM]
      cases v.pr <;> cases what_ x == 2 <;> cases att_ x == v.at_ <;> cases ep_ x == v.ep <;> rfl
    obtain ⟨y1, y2, y3, y4, y5, y6, y7, y8, y9, y10, ⟨ya, yb, yc, yl⟩, ⟨za, zb, zc, zl⟩, ⟨wa, wb, wc, wl⟩⟩ := x
    have hh' := hh y10 y6 y7 rfl rfl rfl
    rw [Rnd.wrapS (by omega) (by omega)]
    refine ⟨hl14.ob (by omega) (by omega), y1, y2, y3, y4, y5, y6, y7, y8, y9, y10, ya, yb, yc, za, zb, zc, wa, wb, wc, hxr, fun e k34 hk34 => ?_, fun e => ?_⟩
    · rw [hh', e, if_pos rfl] at hsn
      refine append_one Rnd.tI (E := iE) (x := y2) hk34 Rnd.iLen ho rfl (Rnd.iOne _) (by simp [maxLen]; omega) (by omega) ?_
      intro b' q' H' how hf hfr _
      exact ⟨b', k + 1, q', rfl, ⟨by omega, by omega, by rw [show ((i : Int) + 1).toNat = i + 1 by omega, hsn]; exact how, hf.sub hs hoff, hfr.off hs hoff⟩, ⟨by simp only; omega⟩⟩
    · rw [hh', e] at hsn
      simp only [Bool.false_eq_true, if_false, List.append_nil] at hsn
      exact ⟨⟨by omega, by omega, by rw [show ((i : Int) + 1).toNat = i + 1 by omega, hsn]; exact ho, hs, hoff⟩, ⟨by simp only; omega⟩⟩
  · have hi' : ¬ i < n := by simpa using hi
    rw [List.take_of_length_le (by omega)] at ho
    exact ⟨b, k, q, rfl, ho, hs, hoff⟩
theorem rHold_ok {H : PHeap} {oa : Option Addr} {n c : Nat} {L : List Msg} {v : Val} (hl : RdL H mE 13 oa n L) (hn : n ≤ 100000) :
    Triple Try.prog 58 #[.slice oa n c, v.v] H fun w H' => ∃ b k q, w = .slice b k q ∧ OwnL H' 3 iE 1 b k q (holdL v L) ∧ Sub H H' ∧ Off H b := by
  have hll := hl.len
  refine rHold.vc oa n c v.pr v.at_ v.ep v.sz H _ ⟨fun t H' => match t with | [.slice b k q, .int _ i] => 0 ≤ i ∧ i ≤ n ∧ OwnL H' 3 iE 1 b k q (holdL v (L.take i.toNat)) ∧ Sub H H' ∧ Off H b | _ => False, fun t _ => match t with | [_, .int _ i] => (n - i).toNat | _ => 0, ⟨by omega, by omega, Owns.nil _ _ 1, Sub.refl _, Off.none _⟩, ?_⟩
  rintro b k q i H14 ⟨i0, i1, ho, hs, hoff⟩
  obtain ⟨i, rfl⟩ : ∃ j : Nat, i = j := ⟨i.toNat, by omega⟩
  rw [Int.toNat_natCast] at ho
  refine ⟨fun hi => ⟨H14, Sub.refl _, ?_⟩, fun hi => ?_⟩
  · have hi' : i < n := by simpa using hi
    have hl14 := hl.mono hs
    obtain ⟨x, hx, hxr⟩ := hl14.ex (i := (i : Int)) (by omega) (by omega)
    rw [Int.toNat_natCast] at hx
    have hkl := (ho.rd (E := iE) (sz := 1) (by omega) Rnd.iLen).len
    have hle := hold_len v (L.take i)
    rw [List.length_take] at hle
    have hsn : holdL v (L.take (i + 1)) = holdL v (L.take i) ++ if holdsM v x then [from_ x] else [] := by rw [List.take_add_one, hx]; exact hold_snoc _ _ _
    have hf1 := Rnd.fldM (j := 1) hxr rfl
    have hho := rHolds_ok x v
    have hne := hl14.elem_ne (i := (i : Int)) (by omega) (by omega)
    obtain ⟨y1, y2, y3, y4, y5, y6, y7, y8, y9, y10, ⟨ya, yb, yc, yl⟩, ⟨za, zb, zc, zl⟩, ⟨wa, wb, wc, wl⟩⟩ := x
    rw [Rnd.wrapS (by omega) (by omega)]
    refine ⟨hl14.ob (by omega) (by omega), y1, y2, y3, y4, y5, y6, y7, y8, y9, y10, ya, yb, yc, za, zb, zc, wa, wb, wc, hxr, hho.use ⟨_, rfl, fun e => ⟨hl14.ob (by omega) (by omega), ⟨hne⟩, y2, hf1, fun k34 hk34 => ?_⟩, fun e => ?_⟩⟩
    · rw [e, if_pos rfl] at hsn
      refine append_one Rnd.tI (E := iE) (x := y2) hk34 Rnd.iLen ho rfl (Rnd.iOne _) (by simp [maxLen]; omega) (by omega) ?_
      intro b' q' H' how hf hfr _
      exact ⟨b', k + 1, q', rfl, ⟨by omega, by omega, by rw [show ((i : Int) + 1).toNat = i + 1 by omega, hsn]; exact how, hf.sub hs hoff, hfr.off hs hoff⟩, ⟨by simp only; omega⟩⟩
    · rw [e] at hsn
      simp only [Bool.false_eq_true, if_false, List.append_nil] at hsn
      exact ⟨⟨by omega, by omega, by rw [show ((i : Int) + 1).toNat = i + 1 by omega, hsn]; exact ho, hs, hoff⟩, ⟨by simp only; omega⟩⟩
  · have hi' : ¬ i < n := by simpa using hi
    rw [List.take_of_length_le (by omega)] at ho
    exact ⟨b, k, q, rfl, ho, hs, hoff⟩
end Go.Stl
