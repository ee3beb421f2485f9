/- What counts, by what several say: the plain words, and the contracts of its small functions. · What counts: the contract of settle.Settle. · What counts: the contract of the document's Settle. · An agreement in plain words: its state, its steps, and what is so of them. No program is in sight. · What is to be shown of each function, in its normal form.  · What is to be shown of each function, in its normal form.  -/
import Derived.Test.YtajkbeifgghpmaaGreatProg
import Derived.Test.YtajkbeifgghpmaaGreatCPk05
set_option linter.unusedVariables false
set_option maxRecDepth 100000
namespace Go.Stl
open Go.Vx Go.Vc Go.Proofs Go.Pln
abbrev Msg := Rnd.Msg
abbrev mE := Rnd.mE
abbrev vM (m : Msg) : Value := .agg (mE m).toArray
abbrev iE : Int → List Value := intE .i64
abbrev kind_ (m : Msg) : Int := m.1
abbrev from_ (m : Msg) : Int := m.2.1
abbrev att_ (m : Msg) : Int := m.2.2.2.2.2.1
abbrev ep_ (m : Msg) : Int := m.2.2.2.2.2.2.1
abbrev mark_ (m : Msg) : Int := m.2.2.2.2.2.2.2.1
abbrev sz_ (m : Msg) : Int := m.2.2.2.2.2.2.2.2.1
abbrev what_ (m : Msg) : Int := m.2.2.2.2.2.2.2.2.2.1
abbrev who_ (m : Msg) : Sl Int := m.2.2.2.2.2.2.2.2.2.2.1
/-- What counts of a name. -/
structure Val where
  pr : Bool
  at_ : Int
  ep : Int
  sz : Int
def val0 : Val := ⟨false, 0, 0, 0⟩
abbrev Val.c (v : Val) : List Value := [.bool v.pr, vI v.at_, vI v.ep, vI v.sz]
abbrev Val.v (v : Val) : Value := .agg #[.bool v.pr, vI v.at_, vI v.ep, vI v.sz]
def whoL (m : Msg) (i : Nat) : Int := ((who_ m).l[i]?).getD 0
def ofV (m : Msg) : Val := ⟨true, att_ m, ep_ m, sz_ m⟩
/-- Is a mark said? -/
def markedM (m : Msg) : Bool := kind_ m == 14 && (what_ m == 2 || what_ m == 3 || what_ m == 4)
def valueM (m : Msg) : Val := if kind_ m == 14 && (what_ m == 2 || what_ m == 3) then ofV m else val0
def soundM (m : Msg) : Bool := kind_ m == 14 && whoL m 2 == 1
def leftM (m : Msg) : Bool := kind_ m == 14 && (whoL m 0 != 0 || whoL m 1 != 0)
def cntM (p : Msg → Bool) (L : List Msg) : Nat := (L.filter p).length
def bestStep (s : Int × Val) (m : Msg) : Int × Val := if markedM m && decide (mark_ m > s.1) then (mark_ m, valueM m) else s
def best (L : List Msg) : Int × Val := L.foldl bestStep (0, val0)
def holdsM (v : Val) (m : Msg) : Bool := v.pr && (what_ m == 2) && (att_ m == v.at_) && (ep_ m == v.ep)
def holdL (v : Val) (L : List Msg) : List Int := (L.filter (holdsM v)).map from_
structure Verd where
  enough : Bool
  clean : Bool
  value : Val
  mark : Int
  holders : List Int
def verd0 : Verd := ⟨false, false, val0, 0, []⟩
/-- What counts. -/
def verd (p : Plan) (L : List Msg) : Verd := if p.ok then
    ⟨decide ((cntM soundM L : Int) ≥ p.n - p.w + 1), cntM leftM L == 0 && ((best L).1 == 0 || decide ((cntM (fun m => markedM m && mark_ m == (best L).1) L : Int) ≥ p.w)), (best L).2, (best L).1, holdL (best L).2 (L.filter fun m => kind_ m == 14)⟩
  else verd0
theorem cnt_snoc (p : Msg → Bool) (L : List Msg) (m : Msg) : cntM p (L ++ [m]) = cntM p L + if p m then 1 else 0 := by
  unfold cntM
  rw [List.filter_append, List.length_append]
  cases h : p m <;> simp [h]
theorem cnt_le (p : Msg → Bool) (L : List Msg) : cntM p L ≤ L.length := List.length_filter_le ..
theorem best_snoc (L : List Msg) (m : Msg) : best (L ++ [m]) = bestStep (best L) m := by simp [best]
theorem hold_snoc (v : Val) (L : List Msg) (m : Msg) : holdL v (L ++ [m]) = holdL v L ++ if holdsM v m then [from_ m] else [] := by
  unfold holdL
  rw [List.filter_append, List.map_append]
  congr 1
  cases h : holdsM v m <;> simp [h]
theorem hold_len (v : Val) (L : List Msg) : (holdL v L).length ≤ L.length := by
  unfold holdL
  rw [List.length_map]; exact List.length_filter_le ..
theorem sWho_ok {H : PHeap} {m : Msg} {i : Nat} (h : RdL H iE 1 (who_ m).oa (who_ m).n (who_ m).l) : Triple Tryz.prog 182 #[vM m, vI i] H fun v H' => v = vI (whoL m i) ∧ H' = H := by
  obtain ⟨y1, y2, y3, y4, y5, y6, y7, y8, y9, y10, ⟨ya, yb, yc, yl⟩, ⟨za, zb, zc, zl⟩, ⟨wa, wb, wc, wl⟩⟩ := m
  have hw : RdL H iE 1 ya yb yl := h
  have hwl := hw.len
  refine sWho.vc y1 y2 y3 y4 y5 y6 y7 y8 y9 y10 ya yb yc za zb zc wa wb wc i H _ ⟨fun e => ?_, fun e => ?_⟩
  · have e' : i < yb := by simpa using e
    obtain ⟨x, hx, hxr⟩ := hw.ex (i := (i : Int)) (by omega) (by omega)
    rw [Int.toNat_natCast] at hx
    exact ⟨hw.ob (by omega) (by omega), x, hxr, by simp [whoL, who_, hx], rfl⟩
  · have e' : ¬ i < yb := by simpa using e
    exact ⟨by simp [whoL, who_, List.getElem?_eq_none (show yl.length ≤ i by omega)], rfl⟩
theorem rWho_ok {H : PHeap} {m : Msg} {i : Nat} (h : RdL H iE 1 (who_ m).oa (who_ m).n (who_ m).l) : Triple Tryz.prog 114 #[vM m, vI i] H fun v H' => v = vI (whoL m i) ∧ H' = H := by
  obtain ⟨y1, y2, y3, y4, y5, y6, y7, y8, y9, y10, ⟨ya, yb, yc, yl⟩, ⟨za, zb, zc, zl⟩, ⟨wa, wb, wc, wl⟩⟩ := m
  have hw : RdL H iE 1 ya yb yl := h
  have hwl := hw.len
  refine rWho.vc y1 y2 y3 y4 y5 y6 y7 y8 y9 y10 ya yb yc za zb zc wa wb wc i H _ ⟨fun e => ?_, fun e => ?_⟩
  · have e' : yb ≤ i := by simpa using e
    exact ⟨by simp [whoL, who_, List.getElem?_eq_none (show yl.length ≤ i by omega)], rfl⟩
  · have e' : i < yb := by simpa using e
    obtain ⟨x, hx, hxr⟩ := hw.ex (i := (i : Int)) (by omega) (by omega)
    rw [Int.toNat_natCast] at hx
    exact ⟨hw.ob (by omega) (by omega), x, hxr, by simp [whoL, who_, hx], rfl⟩
theorem sValue_ok (m : Msg) : Pure Tryz.prog 158 #[vM m] (.tuple #[(valueM m).v, .bool (markedM m)]) := fun H => by
  obtain ⟨y1, y2, y3, y4, y5, y6, y7, y8, y9, y10, ⟨ya, yb, yc, yl⟩, ⟨za, zb, zc, zl⟩, ⟨wa, wb, wc, wl⟩⟩ := m
  refine sValue.vc y1 y2 y3 y4 y5 y6 y7 y8 y9 y10 ya yb yc za zb zc wa wb wc H _ ⟨fun e => ?_, fun e => ?_⟩
  · have e' : (y1 == 14) = false := by simpa [bne] using e
    exact ⟨by simp [valueM, markedM, kind_, e', val0], rfl⟩
  · have e' : (y1 == 14) = true := by simpa [bne] using e
    refine fixOf.vc y10 _ y6 y7 0 y9 none 0 0 H _ ⟨fun e2 => ?_, fun e2 => ⟨fun e3 => ?_, fun e3 => ?_⟩⟩
    · have h2 : (y10 == 2 || y10 == 3) = true := by cases h : y10 == 2 <;> simp [h] at e2 ⊢; simpa using e2
      exact ⟨_, _, _, _, _, rfl, by simp only [valueM, markedM, kind_, what_, e', h2, Bool.true_and, Bool.true_or, if_true, ofV, att_, ep_, sz_], rfl⟩
    · have h2 : (y10 == 2 || y10 == 3) = false := by cases h : y10 == 2 <;> simp [h] at e2 ⊢; simpa using e2
      exact ⟨_, _, _, _, _, rfl, by simp [valueM, markedM, kind_, what_, e', h2, e3, val0], rfl⟩
    · have h2 : (y10 == 2 || y10 == 3) = false := by cases h : y10 == 2 <;> simp [h] at e2 ⊢; simpa using e2
      exact ⟨_, _, _, _, _, rfl, by simp [valueM, markedM, kind_, what_, e', h2, e3, val0], rfl⟩
theorem sMarked_ok (m : Msg) : Pure Tryz.prog 163 #[vM m] (.bool (markedM m)) := fun H => by
  have h := sValue_ok m
  obtain ⟨y1, y2, y3, y4, y5, y6, y7, y8, y9, y10, ⟨ya, yb, yc, yl⟩, ⟨za, zb, zc, zl⟩, ⟨wa, wb, wc, wl⟩⟩ := m
  exact sMarked.vc y1 y2 y3 y4 y5 y6 y7 y8 y9 y10 ya yb yc za zb zc wa wb wc H _ (h.use ⟨_, _, _, _, _, rfl, rfl, rfl⟩)
theorem rMarked_ok (m : Msg) : Pure Tryz.prog 143 #[vM m] (.bool (markedM m)) := fun H => by
  obtain ⟨y1, y2, y3, y4, y5, y6, y7, y8, y9, y10, ⟨ya, yb, yc, yl⟩, ⟨za, zb, zc, zl⟩, ⟨wa, wb, wc, wl⟩⟩ := m
  refine rMarked.vc y1 y2 y3 y4 y5 y6 y7 y8 y9 y10 ya yb yc za zb zc wa wb wc H _ ⟨?_, rfl⟩
  congr 1
  simp only [markedM, kind_, what_]
  cases h : y1 == 14
  · rfl
  · simp only [cond_true, Bool.true_and]
    rw [Bool.eq_iff_iff]
    by_cases h1 : y10 ≥ 2
    · simp [h1]; omega
    · simp [h1]; omega
theorem rHolds_ok (m : Msg) (v : Val) : Pure Tryz.prog 144 #[vM m, v.v] (.bool (holdsM v m)) := fun H => by
  obtain ⟨y1, y2, y3, y4, y5, y6, y7, y8, y9, y10, ⟨ya, yb, yc, yl⟩, ⟨za, zb, zc, zl⟩, ⟨wa, wb, wc, wl⟩⟩ := m
  refine rHolds.vc y1 y2 y3 y4 y5 y6 y7 y8 y9 y10 ya yb yc za zb zc wa wb wc v.pr v.at_ v.ep v.sz H _ ⟨?_, rfl⟩
  congr 1
  simp only [holdsM, what_, att_, ep_]
  cases v.pr <;> cases y10 == 2 <;> cases y6 == v.at_ <;> cases y7 == v.ep <;> rfl
theorem sSound_ok {H : PHeap} {m : Msg} (h : RdL H iE 1 (who_ m).oa (who_ m).n (who_ m).l) : Triple Tryz.prog 161 #[vM m] H fun v H' => v = .bool (soundM m) ∧ H' = H := by
  have hw := sWho_ok (i := 2) h
  obtain ⟨y1, y2, y3, y4, y5, y6, y7, y8, y9, y10, ⟨ya, yb, yc, yl⟩, ⟨za, zb, zc, zl⟩, ⟨wa, wb, wc, wl⟩⟩ := m
  refine sSound.vc y1 y2 y3 y4 y5 y6 y7 y8 y9 y10 ya yb yc za zb zc wa wb wc H _ ⟨fun e => hw.mono ?_, fun e => ?_⟩
  · rintro _ H' ⟨rfl, hH⟩
    obtain rfl := hH.symm
    exact ⟨_, rfl, by simp only [soundM, kind_, e, Bool.true_and], rfl⟩
  · have e' : (y1 == 14) = false := by simpa using e
    exact ⟨by simp only [soundM, kind_, e', Bool.false_and], rfl⟩
theorem sLeft_ok {H : PHeap} {m : Msg} (h : RdL H iE 1 (who_ m).oa (who_ m).n (who_ m).l) : Triple Tryz.prog 162 #[vM m] H fun v H' => v = .bool (leftM m) ∧ H' = H := by
  have hw0 := sWho_ok (i := 0) h
  have hw1 := sWho_ok (i := 1) h
  obtain ⟨y1, y2, y3, y4, y5, y6, y7, y8, y9, y10, ⟨ya, yb, yc, yl⟩, ⟨za, zb, zc, zl⟩, ⟨wa, wb, wc, wl⟩⟩ := m
  refine sLeft.vc y1 y2 y3 y4 y5 y6 y7 y8 y9 y10 ya yb yc za zb zc wa wb wc H _ ⟨fun e => hw0.mono ?_, fun e => ?_⟩
  · rintro _ H' ⟨rfl, hH⟩
    obtain rfl := hH.symm
    refine ⟨_, rfl, fun e0 => hw1.mono ?_, fun e0 => ?_⟩
    · rintro _ H' ⟨rfl, hH⟩
      obtain rfl := hH.symm
      exact ⟨_, rfl, by simp only [leftM, kind_, e, e0, Bool.true_and, Bool.false_or], rfl⟩
    · have e0' : (whoL (y1, y2, y3, y4, y5, y6, y7, y8, y9, y10, ⟨ya, yb, yc, yl⟩, ⟨za, zb, zc, zl⟩, ⟨wa, wb, wc, wl⟩) 0 != 0) = true := by simpa using e0
      exact ⟨by simp only [leftM, kind_, e, e0', Bool.true_and, Bool.true_or], rfl⟩
  · have e' : (y1 == 14) = false := by simpa using e
    exact ⟨by simp only [leftM, kind_, e', Bool.false_and], rfl⟩
abbrev fE (f : Value) : List Value := [f]
theorem count_ok {H : PHeap} {oa ob : Option Addr} {n c k d : Nat} {L : List Msg} {fs : List Value} {ps : List (Msg → Bool)} (hl : RdL H mE 13 oa n L) (hf : RdL H fE 1 ob k fs) (hlen : ps.length = fs.length) (hn : n ≤ 100000) (hk : k ≤ 100000)
    (ht : ∀ (i : Nat) f p, fs[i]? = some f → ps[i]? = some p → ∀ x ∈ L, ∀ Q : Value → PHeap → Prop, Q (.bool (p x)) H → CallY Tryz.prog f #[vM x] H Q) :
    Triple Tryz.prog 160 #[.slice oa n c, .slice ob k d] H fun v H' => v = vI (cntM (fun x => ps.all fun p => p x) L) ∧ H' = H := by
  have hll := hl.len
  have hfl := hf.len
  refine sCount.vc oa n c ob k d H _ ⟨fun t H' => match t with | [.int _ z, .int _ i] => 0 ≤ i ∧ i ≤ n ∧ H' = H ∧ z = (cntM (fun x => ps.all fun p => p x) (L.take i.toNat) : Nat) | _ => False, fun t _ => match t with | [_, .int _ i] => (n - i).toNat | _ => 0, ⟨by omega, by omega, rfl, by simp [cntM]⟩, ?_⟩
  rintro z i H11 ⟨i0, i1, hH, rfl⟩
  obtain rfl := hH.symm
  obtain ⟨i, rfl⟩ : ∃ j : Nat, i = j := ⟨i.toNat, by omega⟩
  rw [Int.toNat_natCast]
  have hcl := cnt_le (fun x => ps.all fun p => p x) (L.take i)
  rw [List.length_take] at hcl
  refine ⟨fun hi => ?_, fun hi => ?_⟩
  · have hi' : i < n := by simpa using hi
    obtain ⟨x, hx, hxr⟩ := hl.ex (i := (i : Int)) (by omega) (by omega)
    rw [Int.toNat_natCast] at hx
    have hxm := List.mem_of_getElem? hx
    have hsn : cntM (fun x => ps.all fun p => p x) (L.take (i + 1)) = cntM (fun x => ps.all fun p => p x) (L.take i) + if (ps.all fun p => p x) then 1 else 0 := by
      rw [List.take_add_one, hx]; exact cnt_snoc _ _ _
    have htx := fun i f p h1 h2 => ht i f p h1 h2 x hxm
    generalize hpx : (ps.all fun p => p x) = px at hsn
    have hpi : ∀ (j : Nat) p, ps[j]? = some p → p x = false → px = false := fun j p hp hf => by
      rw [← hpx, List.all_eq_false]; exact ⟨p, List.mem_of_getElem? hp, by simp [hf]⟩
    have hpall : (∀ p ∈ ps, p x = true) → px = true := fun h => by rw [← hpx, List.all_eq_true]; exact h
    obtain ⟨y1, y2, y3, y4, y5, y6, y7, y8, y9, y10, ⟨ya, yb, yc, yl⟩, ⟨za, zb, zc, zl⟩, ⟨wa, wb, wc, wl⟩⟩ := x
    rw [Rnd.wrapS (by omega) (by omega), Rnd.wrapS (by omega) (by omega)]
    refine ⟨hl.ob (by omega) (by omega), y1, y2, y3, y4, y5, y6, y7, y8, y9, y10, ya, yb, yc, za, zb, zc, wa, wb, wc, hxr, fun t H' => match t with | [.int _ j] => 0 ≤ j ∧ j ≤ k ∧ H' = H ∧ ∀ p ∈ ps.take j.toNat, p (y1, y2, y3, y4, y5, y6, y7, y8, y9, y10, ⟨ya, yb, yc, yl⟩, ⟨za, zb, zc, zl⟩, ⟨wa, wb, wc, wl⟩) = true | _ => False, fun t _ => match t with | [.int _ j] => (k - j).toNat | _ => 0, ⟨by omega, by omega, rfl, by simp⟩, ?_⟩
    rintro j H34 ⟨j0, j1, hH, hall⟩
    obtain rfl := hH.symm
    obtain ⟨j, rfl⟩ : ∃ z : Nat, j = z := ⟨j.toNat, by omega⟩
    rw [Int.toNat_natCast] at hall
    refine ⟨fun hj => ?_, fun hj => ?_⟩
    · have hj' : j < k := by simpa using hj
      obtain ⟨f, hfj, hfr⟩ := hf.ex (i := (j : Int)) (by omega) (by omega)
      rw [Int.toNat_natCast] at hfj
      obtain ⟨p, hp⟩ : ∃ p, ps[j]? = some p := ⟨_, List.getElem?_eq_getElem (by omega)⟩
      refine ⟨hf.ob (by omega) (by omega), f, hfr, htx j f p hfj hp _ ⟨_, rfl, fun e => ?_, fun e => ?_⟩⟩
      · have hpf : p (y1, y2, y3, y4, y5, y6, y7, y8, y9, y10, ⟨ya, yb, yc, yl⟩, ⟨za, zb, zc, zl⟩, ⟨wa, wb, wc, wl⟩) = false := by simpa using e
        refine ⟨⟨by omega, by omega, rfl, ?_⟩, ⟨by simp only; omega⟩⟩
        rw [show ((i : Int) + 1).toNat = i + 1 by omega, hsn, hpi j p hp hpf]; simp
      · have hpt : p (y1, y2, y3, y4, y5, y6, y7, y8, y9, y10, ⟨ya, yb, yc, yl⟩, ⟨za, zb, zc, zl⟩, ⟨wa, wb, wc, wl⟩) = true := by simpa using e
        rw [Rnd.wrapS (by omega) (by omega)]
        refine ⟨⟨by omega, by omega, rfl, fun q hq => ?_⟩, ⟨by simp only; omega⟩⟩
        rw [show ((j : Int) + 1).toNat = j + 1 by omega, List.take_add_one, hp] at hq
        rcases List.mem_append.1 hq with hq | hq
        · exact hall q hq
        · simp at hq; subst hq; exact hpt
    · have hj' : ¬ j < k := by simpa using hj
      rw [List.take_of_length_le (by omega)] at hall
      refine ⟨⟨by omega, by omega, rfl, ?_⟩, ⟨by simp only; omega⟩⟩
      rw [show ((i : Int) + 1).toNat = i + 1 by omega, hsn, hpall hall]; simp
  · have hi' : ¬ i < n := by simpa using hi
    rw [List.take_of_length_le (by omega)]
    exact ⟨rfl, rfl⟩
theorem sHold_ok {H : PHeap} {oa : Option Addr} {n c : Nat} {L : List Msg} {v : Val} (hl : RdL H mE 13 oa n L) (hn : n ≤ 100000) :
    Triple Tryz.prog 164 #[.slice oa n c, v.v] H fun w H' => ∃ b k q, w = .slice b k q ∧ OwnL H' 3 iE 1 b k q (holdL v L) ∧ Sub H H' ∧ Off H b := by
  have hll := hl.len
  refine sHold.vc oa n c v.pr v.at_ v.ep v.sz H _ ⟨fun t H' => match t with | [.slice b k q, .int _ i] => 0 ≤ i ∧ i ≤ n ∧ OwnL H' 3 iE 1 b k q (holdL v (L.take i.toNat)) ∧ Sub H H' ∧ Off H b | _ => False, fun t _ => match t with | [_, .int _ i] => (n - i).toNat | _ => 0, ⟨by omega, by omega, Owns.nil _ _ 1, Sub.refl _, Off.none _⟩, ?_⟩
  rintro b k q i H14 ⟨i0, i1, ho, hs, hoff⟩
  obtain ⟨i, rfl⟩ : ∃ j : Nat, i = j := ⟨i.toNat, by omega⟩
  rw [Int.toNat_natCast] at ho
  refine ⟨fun hi => ?_, fun hi => ?_⟩
  · have hi' : i < n := by simpa using hi
    have hl14 := hl.mono hs
    obtain ⟨x, hx, hxr⟩ := hl14.ex (i := (i : Int)) (by omega) (by omega)
    rw [Int.toNat_natCast] at hx
    have hkl := (ho.rd (E := iE) (sz := 1) (by omega) Rnd.iLen).len
    have hle := hold_len v (L.take i)
    rw [List.length_take] at hle
    have hsn : holdL v (L.take (i + 1)) = holdL v (L.take i) ++ if holdsM v x then [from_ x] else [] := by rw [List.take_add_one, hx]; exact hold_snoc _ _ _
    have hh : ∀ y10 y6 y7 : Int, what_ x = y10 → att_ x = y6 → ep_ x = y7 → holdsM v x = (bif v.pr then bif y10 == 2 then bif y6 == v.at_ then y7 == v.ep else false else false else false) := by
      rintro _ _ _ rfl rfl rfl
      simp only [holdsM]
      cases v.pr <;> cases what_ x == 2 <;> cases att_ x == v.at_ <;> cases ep_ x == v.ep <;> rfl
    obtain ⟨y1, y2, y3, y4, y5, y6, y7, y8, y9, y10, ⟨ya, yb, yc, yl⟩, ⟨za, zb, zc, zl⟩, ⟨wa, wb, wc, wl⟩⟩ := x
    have hh' := hh y10 y6 y7 rfl rfl rfl
    rw [Rnd.wrapS (by omega) (by omega)]
    refine ⟨hl14.ob (by omega) (by omega), y1, y2, y3, y4, y5, y6, y7, y8, y9, y10, ya, yb, yc, za, zb, zc, wa, wb, wc, hxr, fun e k34 hk34 => ?_, fun e => ?_⟩
    · rw [hh', e, if_pos rfl] at hsn
      refine append_one Rnd.tI (E := iE) (x := y2) hk34 Rnd.iLen ho rfl (Rnd.iOne _) (by simp [maxLen]; omega) (by omega) ?_
      intro b' q' H' how hf hfr _
      exact ⟨b', k + 1, q', rfl, ⟨by omega, by omega, by rw [show ((i : Int) + 1).toNat = i + 1 by omega, hsn]; exact how, hf.sub hs hoff, hfr.off hs hoff⟩, ⟨by simp only; omega⟩⟩
    · rw [hh', e] at hsn
      simp only [Bool.false_eq_true, if_false, List.append_nil] at hsn
      exact ⟨⟨by omega, by omega, by rw [show ((i : Int) + 1).toNat = i + 1 by omega, hsn]; exact ho, hs, hoff⟩, ⟨by simp only; omega⟩⟩
  · have hi' : ¬ i < n := by simpa using hi
    rw [List.take_of_length_le (by omega)] at ho
    exact ⟨b, k, q, rfl, ho, hs, hoff⟩
theorem rHold_ok {H : PHeap} {oa : Option Addr} {n c : Nat} {L : List Msg} {v : Val} (hl : RdL H mE 13 oa n L) (hn : n ≤ 100000) :
    Triple Tryz.prog 109 #[.slice oa n c, v.v] H fun w H' => ∃ b k q, w = .slice b k q ∧ OwnL H' 3 iE 1 b k q (holdL v L) ∧ Sub H H' ∧ Off H b := by
  have hll := hl.len
  refine rHold.vc oa n c v.pr v.at_ v.ep v.sz H _ ⟨fun t H' => match t with | [.slice b k q, .int _ i] => 0 ≤ i ∧ i ≤ n ∧ OwnL H' 3 iE 1 b k q (holdL v (L.take i.toNat)) ∧ Sub H H' ∧ Off H b | _ => False, fun t _ => match t with | [_, .int _ i] => (n - i).toNat | _ => 0, ⟨by omega, by omega, Owns.nil _ _ 1, Sub.refl _, Off.none _⟩, ?_⟩
  rintro b k q i H14 ⟨i0, i1, ho, hs, hoff⟩
  obtain ⟨i, rfl⟩ : ∃ j : Nat, i = j := ⟨i.toNat, by omega⟩
  rw [Int.toNat_natCast] at ho
  refine ⟨fun hi => ⟨H14, Sub.refl _, ?_⟩, fun hi => ?_⟩
  · have hi' : i < n := by simpa using hi
    have hl14 := hl.mono hs
    obtain ⟨x, hx, hxr⟩ := hl14.ex (i := (i : Int)) (by omega) (by omega)
    rw [Int.toNat_natCast] at hx
    have hkl := (ho.rd (E := iE) (sz := 1) (by omega) Rnd.iLen).len
    have hle := hold_len v (L.take i)
    rw [List.length_take] at hle
    have hsn : holdL v (L.take (i + 1)) = holdL v (L.take i) ++ if holdsM v x then [from_ x] else [] := by rw [List.take_add_one, hx]; exact hold_snoc _ _ _
    have hf1 := Rnd.fldM (j := 1) hxr rfl
    have hho := rHolds_ok x v
    have hne := hl14.elem_ne (i := (i : Int)) (by omega) (by omega)
    obtain ⟨y1, y2, y3, y4, y5, y6, y7, y8, y9, y10, ⟨ya, yb, yc, yl⟩, ⟨za, zb, zc, zl⟩, ⟨wa, wb, wc, wl⟩⟩ := x
    rw [Rnd.wrapS (by omega) (by omega)]
    refine ⟨hl14.ob (by omega) (by omega), y1, y2, y3, y4, y5, y6, y7, y8, y9, y10, ya, yb, yc, za, zb, zc, wa, wb, wc, hxr, hho.use ⟨_, rfl, fun e => ⟨hl14.ob (by omega) (by omega), ⟨hne⟩, y2, hf1, fun k34 hk34 => ?_⟩, fun e => ?_⟩⟩
    · rw [e, if_pos rfl] at hsn
      refine append_one Rnd.tI (E := iE) (x := y2) hk34 Rnd.iLen ho rfl (Rnd.iOne _) (by simp [maxLen]; omega) (by omega) ?_
      intro b' q' H' how hf hfr _
      exact ⟨b', k + 1, q', rfl, ⟨by omega, by omega, by rw [show ((i : Int) + 1).toNat = i + 1 by omega, hsn]; exact how, hf.sub hs hoff, hfr.off hs hoff⟩, ⟨by simp only; omega⟩⟩
    · rw [e] at hsn
      simp only [Bool.false_eq_true, if_false, List.append_nil] at hsn
      exact ⟨⟨by omega, by omega, by rw [show ((i : Int) + 1).toNat = i + 1 by omega, hsn]; exact ho, hs, hoff⟩, ⟨by simp only; omega⟩⟩
  · have hi' : ¬ i < n := by simpa using hi
    rw [List.take_of_length_le (by omega)] at ho
    exact ⟨b, k, q, rfl, ho, hs, hoff⟩
end Go.Stl
namespace Go.Stl
open Go.Vx Go.Vc Go.Proofs Go.Pln
abbrev Verd.cs (w : Verd) (b : Option Addr) (n c : Nat) : List Value := [.bool w.enough, .bool w.clean, .bool w.value.pr, vI w.value.at_, vI w.value.ep, vI w.value.sz, vI w.mark, .slice b n c]
/-- A verdict lies in a variable of its own. -/
structure VS (t : TypeId) (F H : PHeap) (k : Nat) (w : Verd) : Prop where
  sub : Sub F H
  off : F k = none
  row : ∃ b n c, Bx H k t (w.cs b n c) ∧ OwnL H 3 iE 1 b n c w.holders ∧ Off F b ∧ ∀ a, b = some a → a.block ≠ k
theorem VS.mono {t : TypeId} {F H H' : PHeap} {k : Nat} {w : Verd} (h : VS t F H k w) (hs : Sub H H') : VS t F H' k w := by
  obtain ⟨s, o, b, n, c, h1, h2, h3, h4⟩ := h
  exact ⟨s.trans hs, o, b, n, c, h1.sub hs, h2.mono fun a o _ ho => hs.le _ _ ho, h3, h4⟩
theorem VS.put {t : TypeId} {F H : PHeap} {k : Nat} {w : Verd} (h : VS t F H k w) {w' : Verd} {i : Nat} {x : Value} (he : ∀ b n c, (w.cs b n c).set i x = w'.cs b n c) (hh : w'.holders = w.holders) (hi : i < 8) :
    ∃ H', Writes H H' (fldA (at0 k) i) [x] ∧ VS t F H' k w' := by
  obtain ⟨s, o, b, n, c, h1, h2, h3, h4⟩ := h
  have hw := h1.put (i := i) (x := x) hi
  rw [he] at hw
  exact ⟨_, hw, s.wr o, o, b, n, c, Bx.new H k t _, by rw [hh]; exact h2.mono fun a o ha ho => by rw [Vx.upd_ne _ _ (h4 a ha)]; exact ho, h3, h4⟩
theorem VS.val {t : TypeId} {F H : PHeap} {k : Nat} {w : Verd} (h : VS t F H k w) (v : Val) : ∃ H', Writes H H' (fldA (at0 k) 2) v.c ∧ VS t F H' k ⟨w.enough, w.clean, v, w.mark, w.holders⟩ := by
  obtain ⟨s, o, b, n, c, h1, h2, h3, h4⟩ := h
  have hw := (h1.writes ((⟨w.enough, w.clean, v, w.mark, w.holders⟩ : Verd).cs b n c) rfl).part (A := [.bool w.enough, .bool w.clean]) (l2 := v.c) (B := [vI w.mark, .slice b n c]) (old := w.value.c) h1.reads rfl
  exact ⟨_, hw, s.wr o, o, b, n, c, Bx.new H k t _, h2.mono fun a o ha ho => by rw [Vx.upd_ne _ _ (h4 a ha)]; exact ho, h3, h4⟩
theorem VS.app {t : TypeId} {F H H' : PHeap} {k : Nat} {w : Verd} {b b' : Option Addr} {n c n' c' : Nat} {l' : List Int} (s : Sub F H) (o : F k = none) (h1 : Bx H k t (w.cs b n c)) (h3 : Off F b) (h4 : ∀ a, b = some a → a.block ≠ k)
    (hw : OwnL H' 3 iE 1 b' n' c' l') (hf : Vx.Frame b H H') (hfr : Vx.Fresh b b' H) : ∃ H3, Writes H' H3 (fldA (at0 k) 7) [.slice b' n' c'] ∧ VS t F H3 k ⟨w.enough, w.clean, w.value, w.mark, l'⟩ := by
  have b1 := hf.bx h1 h4
  have hne := hfr.ne h1 h4
  exact ⟨_, b1.put (i := 7) (x := .slice b' n' c') (by show 7 < 8; decide), (hf.sub s h3).wr o, o, b', n', c', Bx.new _ k t _, hw.mono fun a o ha ho => by rw [Vx.upd_ne _ _ (hne a ha)]; exact ho, hfr.off s h3, hne⟩
theorem VS.mk6 {t : TypeId} {F H : PHeap} {k : Nat} {w : Verd} (h : VS t F H k w) : Reads H (fldA (at0 k) 6) [vI w.mark] := by
  obtain ⟨s, o, b, n, c, h1, h2, h3, h4⟩ := h
  exact h1.fld rfl
theorem VS.val2 {t : TypeId} {F H : PHeap} {k : Nat} {w : Verd} (h : VS t F H k w) : Reads H (fldA (at0 k) 2) w.value.c := by
  obtain ⟨s, o, b, n, c, h1, h2, h3, h4⟩ := h
  exact h1.readsAt 2 fun j v hv => by
    match j, hv with
    | 0, hv => exact hv
    | 1, hv => exact hv
    | 2, hv => exact hv
    | 3, hv => exact hv
    | j + 4, hv => simp at hv
/-- A verdict is handed out. -/
abbrev GivesV (w : Verd) (H : PHeap) (v : Value) (H' : PHeap) : Prop := ∃ b n c, v = .agg (w.cs b n c).toArray ∧ OwnL H' 3 iE 1 b n c w.holders ∧ Sub H H' ∧ Off H b
theorem VS.done {t : TypeId} {F H : PHeap} {k : Nat} {w : Verd} (h : VS t F H k w) : ∃ b n c, Reads H (at0 k) (w.cs b n c) ∧ GivesV w F (.agg (w.cs b n c).toArray) H := by
  obtain ⟨s, o, b, n, c, h1, h2, h3, h4⟩ := h
  exact ⟨b, n, c, h1.reads, b, n, c, rfl, h2, s, h3⟩
theorem VS.start {t : TypeId} {H : PHeap} {k : Nat} (hk : H k = none) : VS t H (H.upd k (.cells (verd0.cs none 0 0).toArray t (0, 0))) k verd0 :=
  ⟨Sub.upd _ hk, hk, none, 0, 0, Bx.new H k t _, Owns.nil _ _ 1, Off.none _, fun a h => by cases h⟩
def verdW (p : Plan) (L : List Msg) (h : List Int) : Verd :=
    ⟨decide ((cntM soundM L : Int) ≥ p.n - p.w + 1), cntM leftM L == 0 && ((best L).1 == 0 || decide ((cntM (fun m => markedM m && mark_ m == (best L).1) L : Int) ≥ p.w)), (best L).2, (best L).1, h⟩
theorem verd_ok {p : Plan} {L : List Msg} (e : p.ok = true) : verd p L = verdW p L (holdL (best L).2 (L.filter fun m => kind_ m == 14)) := if_pos e
theorem verd_no {p : Plan} {L : List Msg} (e : p.ok = false) : verd p L = verd0 := if_neg (by rw [e]; decide)
theorem f14_snoc (L : List Msg) (m : Msg) (v : Val) : holdL v ((L ++ [m]).filter fun m => kind_ m == 14) = holdL v (L.filter fun m => kind_ m == 14) ++ if kind_ m == 14 then holdL v [m] else [] := by
  rw [List.filter_append]
  cases h : kind_ m == 14
  · simp [h]
  · simp only [List.filter_cons, h, if_true, List.filter_nil]
    unfold holdL
    rw [List.filter_append, List.map_append]
theorem f14_len (v : Val) (L : List Msg) : (holdL v (L.filter fun m => kind_ m == 14)).length ≤ L.length := Nat.le_trans (hold_len v _) (List.length_filter_le ..)
theorem fsRd {H : PHeap} {k : Nat} {t : TypeId} {fs : List Value} (h : Bx H k t fs) : RdL H fE 1 (at0 k) fs.length fs :=
  Bx.rd (E := fE) (fun _ => rfl) (by rw [show fs.flatMap fE = fs by induction fs with | nil => rfl | cons x l ih => simp [fE]]; exact h)
abbrev tSV : TypeId := 166
theorem sSettle_ok {H : PHeap} {p : Plan} {oa : Option Addr} {n c : Nat} {L : List Msg} (hl : RdL H mE 13 oa n L) (hw : ∀ x ∈ L, RdL H iE 1 (who_ x).oa (who_ x).n (who_ x).l) (hn : n ≤ 100000) :
    Triple Tryz.prog 135 #[p.v, .slice oa n c] H (GivesV (verd p L) H) := by
  have hll := hl.len
  refine sSettle.vc p.n p.t p.l p.w p.s p.r oa n c H _ fun k hk => ?_
  have v0 : VS tSV H _ k verd0 := VS.start hk
  refine (right_ok p).use ⟨_, rfl, fun e => ?_, fun e => ?_⟩
  · obtain ⟨b, m, q, hr, hg⟩ := v0.done
    rw [verd_no (by simpa using e)]
    exact ⟨_, _, _, _, _, _, _, _, _, _, hr, hg⟩
  have e' : p.ok = true := by simpa using e
  have pok := Plan.ok_iff.1 e'
  rw [verd_ok e']
  refine ⟨fun t H' => match t with | [.int _ i] => 0 ≤ i ∧ i ≤ n ∧ VS tSV H H' k ⟨false, false, (best (L.take i.toNat)).2, (best (L.take i.toNat)).1, []⟩ | _ => False, fun t _ => match t with | [.int _ i] => (n - i).toNat | _ => 0, ⟨by omega, by omega, v0⟩, ?_⟩
  rintro i H27 ⟨i0, i1, vs⟩
  obtain ⟨i, rfl⟩ : ∃ j : Nat, i = j := ⟨i.toNat, by omega⟩
  rw [Int.toNat_natCast] at vs
  refine ⟨fun hi => ?_, fun hi => ?_⟩
  · have hi' : i < n := by simpa using hi
    obtain ⟨x, hx, hxr⟩ := (hl.mono vs.sub).ex (i := (i : Int)) (by omega) (by omega)
    rw [Int.toNat_natCast] at hx
    have hst : best (L.take (i + 1)) = bestStep (best (L.take i)) x := by rw [List.take_add_one, hx]; exact best_snoc _ _
    have hva := sValue_ok x
    have hmk : ∀ y8, mark_ x = y8 → bestStep (best (L.take i)) x = if markedM x && decide (y8 > (best (L.take i)).1) then (y8, valueM x) else best (L.take i) := by rintro _ rfl; rfl
    generalize valueM x = va at hva hmk
    generalize markedM x = mk at hva hmk
    obtain ⟨y1, y2, y3, y4, y5, y6, y7, y8, y9, y10, ⟨ya, yb, yc, yl⟩, ⟨za, zb, zc, zl⟩, ⟨wa, wb, wc, wl⟩⟩ := x
    have hmk' := hmk y8 rfl
    rw [Rnd.wrapS (by omega) (by omega)]
    refine ⟨(hl.mono vs.sub).ob (by omega) (by omega), y1, y2, y3, y4, y5, y6, y7, y8, y9, y10, ya, yb, yc, za, zb, zc, wa, wb, wc, hxr, hva.use ⟨_, _, _, _, _, rfl, fun e1 => ?_, fun e1 => ?_⟩⟩
    · refine ⟨obP k, _, vs.mk6, fun e2 => ?_, fun e2 => ?_⟩
      · rw [e1, e2] at hmk'
        obtain ⟨H56, w56, vs56⟩ := vs.put (w' := ⟨false, false, (best (L.take i)).2, y8, []⟩) (i := 6) (x := vI y8) (fun _ _ _ => rfl) rfl (by decide)
        obtain ⟨H57, w57, vs57⟩ := vs56.val va
        refine ⟨H, vs.sub, obP k, H56, w56, vs56.sub, obP k, H57, w57, ⟨by omega, by omega, ?_⟩, ⟨by simp only; omega⟩⟩
        rw [show ((i : Int) + 1).toNat = i + 1 by omega, hst, hmk']; exact vs57
      · rw [e1, e2] at hmk'
        refine ⟨⟨by omega, by omega, ?_⟩, ⟨by simp only; omega⟩⟩
        rw [show ((i : Int) + 1).toNat = i + 1 by omega, hst, hmk']; exact vs
    · have e1' : mk = false := by simpa using e1
      rw [e1'] at hmk'
      refine ⟨⟨by omega, by omega, ?_⟩, ⟨by simp only; omega⟩⟩
      rw [show ((i : Int) + 1).toNat = i + 1 by omega, hst, hmk']; exact vs
  · have hi' : ¬ i < n := by simpa using hi
    rw [List.take_of_length_le (by omega)] at vs
    have cl : ∀ p : Msg → Bool, (cntM p L : Int) ≤ n := fun p => by have := cnt_le p L; omega
    have hone : ∀ p : Msg → Bool, cntM (fun x => [p].all fun p => p x) L = cntM p L := fun p => by simp
    refine ⟨H27, Sub.refl _, fun k59 hk59 => ⟨Sub.upd _ hk59, ?_⟩⟩
    have s59 : Sub H27 (H27.upd k59 (Obj.cells #[Value.func (Fn.func 161) #[] #[]] 91)) := Sub.upd _ hk59
    have b59 : Bx (H27.upd k59 (Obj.cells #[Value.func (Fn.func 161) #[] #[]] 91)) k59 91 [Value.func (Fn.func 161) #[] #[]] := Bx.new H27 k59 _ _
    refine (count_ok (fs := [Value.func (Fn.func 161) #[] #[]]) (ps := [soundM]) ((hl.mono vs.sub).mono s59) (fsRd b59) rfl hn (by decide) fun j f q h1 h2 x hx Q hQ => ?_).mono ?_
    · match j, h1, h2 with
      | 0, h1, h2 =>
        simp at h1 h2; subst h1 h2
        refine CallY.fn (by kernel_rfl) ((sSound_ok (((hw x hx).mono vs.sub).mono s59)).mono ?_)
        rintro _ H' ⟨rfl, hH⟩
        rw [hH]; exact hQ
      | j + 1, h1, h2 => simp at h1
    rintro _ H61 ⟨rfl, hH⟩
    rw [hone, hH]
    refine ⟨_, rfl, s59, (quorum_ok _ p).mono ?_⟩
    rintro _ H64 ⟨rfl, s64⟩
    rw [if_pos e']
    refine ⟨_, rfl, obP k, ?_⟩
    have vs61 := (vs.mono s59).mono s64
    obtain ⟨H66, w66, vs66⟩ := vs61.put (w' := ⟨decide ((cntM soundM L : Int) ≥ p.n - p.w + 1), false, (best L).2, (best L).1, []⟩) (i := 0) (x := .bool (decide ((cntM soundM L : Int) ≥ p.n - p.w + 1))) (fun _ _ _ => rfl) rfl (by decide)
    refine ⟨H66, w66, ?_⟩
    apply both (C := fun H' => VS tSV H H' k (verdW p L []))
    · intro key
      refine ⟨H66, Sub.refl _, fun k68 hk68 => ⟨Sub.upd _ hk68, ?_⟩⟩
      have s68 : Sub H66 (H66.upd k68 (Obj.cells #[Value.func (Fn.func 162) #[] #[]] 91)) := Sub.upd _ hk68
      have b68 : Bx (H66.upd k68 (Obj.cells #[Value.func (Fn.func 162) #[] #[]] 91)) k68 91 [Value.func (Fn.func 162) #[] #[]] := Bx.new H66 k68 _ _
      have vs68 := vs66.mono s68
      generalize h68 : H66.upd k68 (Obj.cells #[Value.func (Fn.func 162) #[] #[]] 91) = H70 at s68 b68 vs68 ⊢
      refine (count_ok (fs := [Value.func (Fn.func 162) #[] #[]]) (ps := [leftM]) (hl.mono vs68.sub) (fsRd b68) rfl hn (by decide) fun j f q h1 h2 x hx Q hQ => ?_).mono ?_
      · match j, h1, h2 with
        | 0, h1, h2 =>
          simp at h1 h2; rw [← h1]; rw [← h2] at hQ
          refine CallY.fn (by kernel_rfl) ((sLeft_ok ((hw x hx).mono vs68.sub)).mono ?_)
          rintro _ H' ⟨hv, hH⟩
          rw [hv, hH]; exact hQ
        | j + 1, h1, h2 => simp at h1
      intro v69 H70' h70
      rw [hone] at h70
      rw [h70.1, h70.2]
      refine ⟨_, rfl, s68, fun e1 => ⟨obP k, _, vs66.mk6, fun e2 => ?_, fun e2 => ?_⟩, fun e1 => ?_⟩
      · intro k73 hk73
        have s73 := Sub.upd (Obj.cells #[Value.func (Fn.func 163) #[] #[], Value.func (Fn.func 159) #[] #[Value.pointer (at0 k)]] 91) hk73
        have b73 : Bx (H70.upd k73 (Obj.cells #[Value.func (Fn.func 163) #[] #[], Value.func (Fn.func 159) #[] #[Value.pointer (at0 k)]] 91)) k73 91 [Value.func (Fn.func 163) #[] #[], Value.func (Fn.func 159) #[] #[Value.pointer (at0 k)]] := Bx.new H70 k73 _ _
        have vs73 := vs68.mono s73
        have s73' := s68.trans s73
        generalize h73 : H70.upd k73 (Obj.cells #[Value.func (Fn.func 163) #[] #[], Value.func (Fn.func 159) #[] #[Value.pointer (at0 k)]] 91) = H75 at s73 b73 vs73 s73' ⊢
        refine ⟨s73', (count_ok (fs := [Value.func (Fn.func 163) #[] #[], Value.func (Fn.func 159) #[] #[Value.pointer (at0 k)]]) (ps := [markedM, fun m => mark_ m == (best L).1]) (hl.mono vs73.sub) (fsRd b73) rfl hn (by simp) fun j f q h1 h2 x hx Q hQ => ?_).mono ?_⟩
        · match j, h1, h2 with
          | 0, h1, h2 =>
            simp at h1 h2; rw [← h1]; rw [← h2] at hQ
            exact CallY.fn (by kernel_rfl) ((sMarked_ok x).use hQ)
          | 1, h1, h2 =>
            simp at h1 h2; rw [← h1]; rw [← h2] at hQ
            refine CallY.fn (by kernel_rfl) ?_
            obtain ⟨y1, y2, y3, y4, y5, y6, y7, y8, y9, y10, ⟨ya, yb, yc, yl⟩, ⟨za, zb, zc, zl⟩, ⟨wa, wb, wc, wl⟩⟩ := x
            exact sSettle1.vc y1 y2 y3 y4 y5 y6 y7 y8 y9 y10 ya yb yc za zb zc wa wb wc (at0 k) H75 Q ⟨obP k, _, vs73.mk6, hQ⟩
          | j + 2, h1, h2 => simp at h1
        intro v74 H75' h75
        have h2 : cntM (fun x => [markedM, fun m => mark_ m == (best L).1].all fun p => p x) L = cntM (fun m => markedM m && mark_ m == (best L).1) L := by simp
        rw [h2] at h75
        rw [h75.1, h75.2]
        obtain ⟨H77, w77, vs77⟩ := vs73.put (w' := verdW p L []) (i := 1) (x := .bool (decide ((cntM (fun m => markedM m && mark_ m == (best L).1) L : Int) ≥ p.w))) (fun _ _ _ => by
          have e1' : (cntM leftM L == 0) = true := by simpa using e1
          have e2' : ((best L).1 == 0) = false := e2
          simp only [verdW, Verd.cs, e1', e2', Bool.true_and, Bool.false_or, List.set]) rfl (by decide)
        exact ⟨_, rfl, s73', obP k, H77, w77, key H77 vs77⟩
      · obtain ⟨H77, w77, vs77⟩ := vs68.put (w' := verdW p L []) (i := 1) (x := .bool true) (fun _ _ _ => by
          have e1' : (cntM leftM L == 0) = true := by simpa using e1
          have e2' : ((best L).1 == 0) = true := by simpa using e2
          simp only [verdW, Verd.cs, e1', e2', Bool.true_and, Bool.true_or, List.set]) rfl (by decide)
        exact ⟨obP k, H77, w77, key H77 vs77⟩
      · obtain ⟨H77, w77, vs77⟩ := vs68.put (w' := verdW p L []) (i := 1) (x := .bool false) (fun _ _ _ => by
          have e1' : (cntM leftM L == 0) = false := by simpa using e1
          simp only [verdW, Verd.cs, e1', Bool.false_and, List.set]) rfl (by decide)
        exact ⟨obP k, H77, w77, key H77 vs77⟩
    · intro H77 vs77
      refine ⟨fun t H' => match t with | [.int _ i] => 0 ≤ i ∧ i ≤ n ∧ VS tSV H H' k (verdW p L (holdL (best L).2 ((L.take i.toNat).filter fun m => kind_ m == 14))) | _ => False, fun t _ => match t with | [.int _ i] => (n - i).toNat | _ => 0, ⟨by omega, by omega, vs77⟩, ?_⟩
      rintro i H81 ⟨i0, i1, vs⟩
      obtain ⟨i, rfl⟩ : ∃ j : Nat, i = j := ⟨i.toNat, by omega⟩
      rw [Int.toNat_natCast] at vs
      refine ⟨fun hi => ?_, fun hi => ?_⟩
      · have hi' : i < n := by simpa using hi
        obtain ⟨x, hx, hxr⟩ := (hl.mono vs.sub).ex (i := (i : Int)) (by omega) (by omega)
        rw [Int.toNat_natCast] at hx
        have hst := f14_snoc (L.take i) x (best L).2
        rw [show L.take i ++ [x] = L.take (i + 1) by rw [List.take_add_one, hx]; rfl] at hst
        have hlen := f14_len (best L).2 (L.take i)
        rw [List.length_take] at hlen
        have hme : ∀ (H : PHeap) (k : Nat), Bx H k 52 (mE x) → RdL H mE 13 (at0 k) 1 [x] := fun H k h => Bx.rd (E := mE) (l := [x]) Rnd.mLen (by simpa using h)
        have hl1 := hold_len (best L).2 [x]
        have hmB : ∀ (H : PHeap) (k : Nat), H k = none → Bx (H.upd k (.cells (mE x).toArray 52 (0, 0))) k 52 (mE x) := fun H k _ => Bx.new H k _ _
        generalize hX : holdL (best L).2 [x] = X at hst hl1
        have hho : ∀ {G : PHeap} {oa : Option Addr} {c : Nat}, RdL G mE 13 oa 1 [x] → Triple Tryz.prog 164 #[.slice oa 1 c, (best L).2.v] G fun w H' => ∃ b k q, w = .slice b k q ∧ OwnL H' 3 iE 1 b k q X ∧ Sub G H' ∧ Off G b := fun h => by
          rw [← hX]; exact sHold_ok h (by decide)
        have hkx : ∀ y1, kind_ x = y1 → (kind_ x == 14) = (y1 == 14) := by rintro _ rfl; rfl
        obtain ⟨y1, y2, y3, y4, y5, y6, y7, y8, y9, y10, ⟨ya, yb, yc, yl⟩, ⟨za, zb, zc, zl⟩, ⟨wa, wb, wc, wl⟩⟩ := x
        rw [hkx y1 rfl] at hst
        rw [Rnd.wrapS (by omega) (by omega)]
        refine ⟨(hl.mono vs.sub).ob (by omega) (by omega), y1, y2, y3, y4, y5, y6, y7, y8, y9, y10, ya, yb, yc, za, zb, zc, wa, wb, wc, hxr, fun e1 k101 hk101 => ?_, fun e1 => ?_⟩
        · rw [e1, if_pos rfl] at hst
          have b101 := hmB H81 k101 hk101
          have s101 := Sub.upd (.cells (mE (y1, y2, y3, y4, y5, y6, y7, y8, y9, y10, ⟨ya, yb, yc, yl⟩, ⟨za, zb, zc, zl⟩, ⟨wa, wb, wc, wl⟩)).toArray 52 (0, 0)) hk101
          refine ⟨obP k, _, _, _, _, (vs.mono s101).val2, (hho (hme _ _ b101)).mono ?_⟩
          rintro _ H107 ⟨b, m, q, rfl, hX2, s107, o107⟩
          have vs107 := (vs.mono s101).mono s107
          obtain ⟨s, o, b2, n2, c2, h1, h2, h3, h4⟩ := vs107
          have hm := (hX2.rd (E := iE) (sz := 1) (by omega) Rnd.iLen).len
          have hn2 := (h2.rd (E := iE) (sz := 1) (by omega) Rnd.iLen).len
          have hn2' : n2 ≤ 100000 := by rw [← hn2]; simp only [verdW]; omega
          have hm' : m ≤ 1 := by rw [← hm]; simpa using hl1
          refine ⟨_, _, _, rfl, obP k, b2, n2, c2, h1.fld rfl, append_rd Rnd.tI Rnd.iLen h2 (hX2.rd (E := iE) (sz := 1) (by omega) Rnd.iLen) Rnd.iOne (by simp [maxLen]; omega) (by omega) ?_⟩
          intro b' c' H115 how hf hfr
          obtain ⟨H119, w119, vs119⟩ := VS.app s o h1 h3 h4 how hf hfr
          refine ⟨_, _, _, rfl, obP k, H119, w119, ⟨by omega, by omega, ?_⟩, ⟨by simp only; omega⟩⟩
          rw [show ((i : Int) + 1).toNat = i + 1 by omega, hst]; exact vs119
        · rw [e1] at hst
          simp only [Bool.false_eq_true, if_false, List.append_nil] at hst
          refine ⟨⟨by omega, by omega, ?_⟩, ⟨by simp only; omega⟩⟩
          rw [show ((i : Int) + 1).toNat = i + 1 by omega, hst]; exact vs
      · have hi' : ¬ i < n := by simpa using hi
        rw [List.take_of_length_le (by omega)] at vs
        obtain ⟨b, m, q, hr, hg⟩ := vs.done
        exact ⟨_, _, _, _, _, _, _, _, _, _, hr, hg⟩
end Go.Stl
namespace Go.Stl
open Go.Vx Go.Vc Go.Proofs Go.Pln
abbrev tRV : TypeId := 146
/-- One proof for two places. -/
theorem twice2 {T C : Int → Int → Prop} {G : Prop} (use : (∀ a b, C a b → T a b) → G) (key : ∀ a b, C a b → T a b) : G := use key
theorem cnt_bif {b : Bool} {c : Nat} {z : Int} (hz : z = c) (h : c ≤ 1000000) : (bif b then IntKind.i64.wrap (z + 1) else z) = ((c + (if b then 1 else 0) : Nat) : Int) := by
  cases b
  · simpa using hz
  · simp only [cond_true, if_true]; rw [wrap64 (by omega) (by omega)]; omega
theorem hold_one (v : Val) (x : Msg) : holdL v [x] = if holdsM v x then [from_ x] else [] := by
  unfold holdL
  cases h : holdsM v x <;> simp [h]
theorem marked_val {m : Msg} (h : markedM m = true) : valueM m = if what_ m != 4 then ofV m else val0 := by
  simp only [markedM, valueM] at h ⊢
  cases h1 : kind_ m == 14 <;> simp [h1] at h ⊢
  rcases h with (h | h) | h <;> simp [h]
theorem rSettle_ok {H : PHeap} {p : Plan} {oa : Option Addr} {n c : Nat} {L : List Msg} (hl : RdL H mE 13 oa n L) (hw : ∀ x ∈ L, RdL H iE 1 (who_ x).oa (who_ x).n (who_ x).l) (hn : n ≤ 100000) :
    Triple Tryz.prog 107 #[p.v, .slice oa n c] H (GivesV (verd p L) H) := by
  have hll := hl.len
  refine rSettle.vc p.n p.t p.l p.w p.s p.r oa n c H _ fun k hk => ?_
  have v00 : VS tRV H _ k verd0 := VS.start hk
  obtain ⟨H11, w11, v0⟩ : ∃ H11, Writes (H.upd k (.cells (verd0.cs none 0 0).toArray tRV (0, 0))) H11 (at0 k) (verd0.cs none 0 0) ∧ VS tRV H H11 k verd0 :=
    ⟨_, (Bx.new H k tRV (verd0.cs none 0 0)).writes (verd0.cs none 0 0) rfl, v00.sub.wr hk, hk, none, 0, 0, Bx.new _ k tRV _, Owns.nil _ _ 1, Off.none _, fun a h => by cases h⟩
  refine ⟨H11, w11, (refRight_ok p).use ⟨_, rfl, fun e => ?_, fun e => ?_⟩⟩
  · obtain ⟨b, m, q, hr, hg⟩ := v0.done
    rw [verd_no (by simpa using e)]
    exact ⟨_, _, _, _, _, _, _, _, _, _, hr, hg⟩
  have e' : p.ok = true := by simpa using e
  have pok := Plan.ok_iff.1 e'
  have pn := pok.n2
  have pn1 := pok.n1
  have pw := pok.w2
  have pw1 := pok.w1
  rw [verd_ok e']
  refine ⟨fun t H' => match t with | [.int _ i] => 0 ≤ i ∧ i ≤ n ∧ VS tRV H H' k ⟨false, false, (best (L.take i.toNat)).2, (best (L.take i.toNat)).1, []⟩ | _ => False, fun t _ => match t with | [.int _ i] => (n - i).toNat | _ => 0, ⟨by omega, by omega, v0⟩, ?_⟩
  rintro i H28 ⟨i0, i1, vs⟩
  obtain ⟨i, rfl⟩ : ∃ j : Nat, i = j := ⟨i.toNat, by omega⟩
  rw [Int.toNat_natCast] at vs
  refine ⟨fun hi => ?_, fun hi => ?_⟩
  · have hi' : i < n := by simpa using hi
    have hl28 := hl.mono vs.sub
    obtain ⟨x, hx, hxr⟩ := hl28.ex (i := (i : Int)) (by omega) (by omega)
    rw [Int.toNat_natCast] at hx
    have hst : best (L.take (i + 1)) = bestStep (best (L.take i)) x := by rw [List.take_add_one, hx]; exact best_snoc _ _
    have ob := hl28.ob (i := (i : Int)) (by omega) (by omega)
    have ne : Ob (elemA oa (i : Int) 13 ≠ none) := ⟨hl28.elem_ne (i := (i : Int)) (by omega) (by omega)⟩
    have rd : ∀ {G : PHeap}, Sub H G → ∀ {j : Nat} {v : Value}, (mE x)[j]? = some v → Reads G (fldA (elemA oa (i : Int) 13) j) [v] := fun hs j v hv => by
      have := ((hl.mono hs).at (i := (i : Int)) (by omega) (by rw [Int.toNat_natCast]; exact hx))
      exact Rnd.fldM this hv
    have hma := rMarked_ok x
    have hmv := fun h => marked_val (m := x) h
    have hbs : bestStep (best (L.take i)) x = if markedM x && decide (mark_ x > (best (L.take i)).1) then (mark_ x, valueM x) else best (L.take i) := rfl
    generalize valueM x = va at hbs hmv
    generalize markedM x = mm at hma hmv hbs
    obtain ⟨y1, y2, y3, y4, y5, y6, y7, y8, y9, y10, ⟨ya, yb, yc, yl⟩, ⟨za, zb, zc, zl⟩, ⟨wa, wb, wc, wl⟩⟩ := x
    have hbs' : bestStep (best (L.take i)) (y1, y2, y3, y4, y5, y6, y7, y8, y9, y10, ⟨ya, yb, yc, yl⟩, ⟨za, zb, zc, zl⟩, ⟨wa, wb, wc, wl⟩) = if mm && decide (y8 > (best (L.take i)).1) then (y8, va) else best (L.take i) := hbs
    have hmv' : mm = true → va = if y10 != 4 then ⟨true, y6, y7, y9⟩ else val0 := hmv
    rw [← hst] at hbs'
    rw [Rnd.wrapS (by omega) (by omega)]
    refine ⟨H28, Sub.refl _, ob, y1, y2, y3, y4, y5, y6, y7, y8, y9, y10, ya, yb, yc, za, zb, zc, wa, wb, wc, hxr, hma.use ⟨_, rfl, Sub.refl _, fun e1 => ?_, fun e1 => ?_⟩⟩
    · have e1' : mm = true := by simpa using e1
      refine ⟨ob, ne, y8, rd vs.sub (j := 7) rfl, obP k, _, vs.mk6, fun e2 => ?_, fun e2 => ?_⟩
      · have e2' : decide (y8 > (best (L.take i)).1) = false := by simpa using e2
        rw [e1', e2'] at hbs'
        refine ⟨⟨by omega, by omega, ?_⟩, ⟨by simp only; omega⟩⟩
        rw [show ((i : Int) + 1).toNat = i + 1 by omega, hbs']; exact vs
      · have e2' : decide (y8 > (best (L.take i)).1) = true := by
          have : ¬ y8 ≤ (best (L.take i)).1 := by simpa using e2
          simp; omega
        rw [e1', e2'] at hbs'
        have hva := hmv' e1'
        obtain ⟨H55, w55, vs55⟩ := vs.put (w' := ⟨false, false, (best (L.take i)).2, y8, []⟩) (i := 6) (x := vI y8) (fun _ _ _ => rfl) rfl (by decide)
        obtain ⟨H56, w56, vs56⟩ := vs55.val val0
        refine ⟨ob, ne, y8, rd vs.sub (j := 7) rfl, obP k, H55, w55, obP k, H56, w56, ob, ne, y10, rd vs56.sub (j := 9) rfl, fun e3 => ?_, fun e3 => ?_⟩
        · obtain ⟨H62, w62, vs62⟩ := vs56.val ⟨true, y6, y7, y9⟩
          refine ⟨H56, Sub.refl _, ob, ne, y6, rd vs56.sub (j := 5) rfl, ob, ne, y7, rd vs56.sub (j := 6) rfl, ob, ne, y9, rd vs56.sub (j := 8) rfl, obP k, H62, w62, ⟨by omega, by omega, ?_⟩, ⟨by simp only; omega⟩⟩
          rw [e3, if_pos rfl] at hva
          rw [show ((i : Int) + 1).toNat = i + 1 by omega, hbs', hva]; exact vs62
        · refine ⟨⟨by omega, by omega, ?_⟩, ⟨by simp only; omega⟩⟩
          rw [e3] at hva
          rw [show ((i : Int) + 1).toNat = i + 1 by omega, hbs', hva]; exact vs56
    · have e1' : mm = false := by simpa using e1
      rw [e1'] at hbs'
      refine ⟨⟨by omega, by omega, ?_⟩, ⟨by simp only; omega⟩⟩
      rw [show ((i : Int) + 1).toNat = i + 1 by omega, hbs']; exact vs
  · have hi' : ¬ i < n := by simpa using hi
    rw [List.take_of_length_le (by omega)] at vs
    refine ⟨fun t H' => match t with | [.int _ a, .int _ b, .int _ d, .int _ i] => 0 ≤ i ∧ i ≤ n ∧ a = (cntM soundM (L.take i.toNat) : Nat) ∧ b = (cntM (fun m => markedM m && mark_ m == (best L).1) (L.take i.toNat) : Nat) ∧ d = (cntM leftM (L.take i.toNat) : Nat) ∧ VS tRV H H' k ⟨false, false, (best L).2, (best L).1, holdL (best L).2 ((L.take i.toNat).filter fun m => kind_ m == 14)⟩ | _ => False, fun t _ => match t with | [_, _, _, .int _ i] => (n - i).toNat | _ => 0, ⟨by omega, by omega, rfl, rfl, rfl, vs⟩, ?_⟩
    clear hi hi' i0 i1 i
    rintro n65 n66 n67 i H69 ⟨i0, i1, h65, h66, h67, vs⟩
    obtain ⟨i, rfl⟩ : ∃ j : Nat, i = j := ⟨i.toNat, by omega⟩
    rw [Int.toNat_natCast] at vs h65 h66 h67
    have cl : ∀ p : Msg → Bool, cntM p (L.take i) ≤ 1000000 := fun p => by have := cnt_le p (L.take i); rw [List.length_take] at this; omega
    refine ⟨fun hi => ?_, fun hi => ?_⟩
    · have hi' : i < n := by simpa using hi
      have hl69 := hl.mono vs.sub
      obtain ⟨x, hx, hxr⟩ := hl69.ex (i := (i : Int)) (by omega) (by omega)
      rw [Int.toNat_natCast] at hx
      have htk : L.take i ++ [x] = L.take (i + 1) := by rw [List.take_add_one, hx]; rfl
      have hst := f14_snoc (L.take i) x (best L).2
      have hcs := cnt_snoc soundM (L.take i) x
      have hcm := cnt_snoc (fun m => markedM m && mark_ m == (best L).1) (L.take i) x
      have hcl := cnt_snoc leftM (L.take i) x
      rw [htk] at hst hcs hcm hcl
      rw [hold_one] at hst
      have hlen := f14_len (best L).2 (L.take i)
      rw [List.length_take] at hlen
      have ob := hl69.ob (i := (i : Int)) (by omega) (by omega)
      have ne : Ob (elemA oa (i : Int) 13 ≠ none) := ⟨hl69.elem_ne (i := (i : Int)) (by omega) (by omega)⟩
      have rd : ∀ {G : PHeap}, Sub H G → ∀ {j : Nat} {v : Value}, (mE x)[j]? = some v → Reads G (fldA (elemA oa (i : Int) 13) j) [v] := fun hs j v hv => by
        have := ((hl.mono hs).at (i := (i : Int)) (by omega) (by rw [Int.toNat_natCast]; exact hx))
        exact Rnd.fldM this hv
      have hwx := (hw x (List.mem_of_getElem? hx)).mono vs.sub
      have hw0 := rWho_ok (i := 0) hwx
      have hw1 := rWho_ok (i := 1) hwx
      have hw2 := rWho_ok (i := 2) hwx
      have hma := rMarked_ok x
      have hho := rHolds_ok x (best L).2
      have hs_ : ∀ y1, kind_ x = y1 → soundM x = (y1 == 14 && whoL x 2 == 1) := by rintro _ rfl; rfl
      have hl_ : ∀ y1, kind_ x = y1 → leftM x = (y1 == 14 && (whoL x 0 != 0 || whoL x 1 != 0)) := by rintro _ rfl; rfl
      have hm_ : ∀ y8, mark_ x = y8 → (markedM x && mark_ x == (best L).1) = (markedM x && y8 == (best L).1) := by rintro _ rfl; rfl
      have hmk_ : ∀ y1, kind_ x = y1 → (y1 == 14) = false → (markedM x && mark_ x == (best L).1) = false := by rintro _ rfl h; simp [markedM, h]
      have hk_ : ∀ y1, kind_ x = y1 → (kind_ x == 14) = (y1 == 14) := by rintro _ rfl; rfl
      have hf_ : ∀ y2, from_ x = y2 → [from_ x] = [y2] := by rintro _ rfl; rfl
      generalize soundM x = sm at hs_ hcs
      generalize leftM x = lm at hl_ hcl
      generalize (markedM x && mark_ x == (best L).1) = qm at hm_ hmk_ hcm
      generalize markedM x = mm at hma hm_
      generalize holdsM (best L).2 x = hm at hho hst
      generalize whoL x 0 = w0 at hw0 hl_
      generalize whoL x 1 = w1 at hw1 hl_
      generalize whoL x 2 = w2 at hw2 hs_
      obtain ⟨y1, y2, y3, y4, y5, y6, y7, y8, y9, y10, ⟨ya, yb, yc, yl⟩, ⟨za, zb, zc, zl⟩, ⟨wa, wb, wc, wl⟩⟩ := x
      rw [hk_ y1 rfl, hf_ y2 rfl] at hst
      replace hs_ := hs_ y1 rfl
      replace hl_ := hl_ y1 rfl
      replace hm_ := hm_ y8 rfl
      rw [Rnd.wrapS (i := (i : Int)) (by omega) (by omega)]
      refine ⟨ob, ne, y1, rd vs.sub (j := 0) rfl, fun e1 => ?_, fun e1 => ?_⟩
      · have e1' : (y1 == 14) = false := by simpa [bne] using e1
        rw [e1'] at hst hs_ hl_
        simp only [Bool.false_eq_true, if_false, List.append_nil, Bool.false_and] at hst hs_ hl_
        have hq : qm = false := hmk_ y1 rfl e1'
        rw [hs_] at hcs
        rw [hl_] at hcl
        rw [hq] at hcm
        refine ⟨⟨by omega, by omega, ?_⟩, ⟨by simp only; omega⟩⟩
        rw [show ((i : Int) + 1).toNat = i + 1 by omega, hst, hcs, hcl, hcm]
        exact ⟨h65, h66, h67, vs⟩
      have e1' : (y1 == 14) = true := by simpa [bne] using e1
      rw [e1'] at hst hs_ hl_
      simp only [if_true, Bool.true_and] at hst hs_ hl_
      have h65' : (bif w2 == 1 then IntKind.i64.wrap (n65 + 1) else n65) = (cntM soundM (L.take (i + 1)) : Nat) := by rw [cnt_bif h65 (cl _), hcs, hs_]
      refine ⟨ob, y1, y2, y3, y4, y5, y6, y7, y8, y9, y10, ya, yb, yc, za, zb, zc, wa, wb, wc, hxr, hw2.mono ?_⟩
      rintro _ H91 ⟨rfl, hH⟩
      rw [hH]
      refine ⟨_, rfl, ob, y1, y2, y3, y4, y5, y6, y7, y8, y9, y10, ya, yb, yc, za, zb, zc, wa, wb, wc, hxr, hw0.mono ?_⟩
      rintro _ H113 ⟨rfl, hH⟩
      rw [hH]
      refine ⟨_, rfl, ?_⟩
      rw [h65']
      apply twice2 (C := fun lf ss => lf = (cntM leftM (L.take (i + 1)) : Nat) ∧ ss = (cntM (fun m => markedM m && mark_ m == (best L).1) (L.take (i + 1)) : Nat))
      · intro key
        refine ⟨fun e2 => ⟨ob, y1, y2, y3, y4, y5, y6, y7, y8, y9, y10, ya, yb, yc, za, zb, zc, wa, wb, wc, hxr, hw1.mono ?_⟩, fun e2 => ?_⟩
        · intro v134 H135 h135
          rw [h135.1, h135.2]
          have e2' : (w0 != 0) = false := e2
          have hlf : (bif w1 != 0 then IntKind.i64.wrap (n67 + 1) else n67) = (cntM leftM (L.take (i + 1)) : Nat) := by rw [cnt_bif h67 (cl _), hcl, hl_, e2', Bool.false_or]
          refine ⟨w1, rfl, H69, Sub.refl _, ob, y1, y2, y3, y4, y5, y6, y7, y8, y9, y10, ya, yb, yc, za, zb, zc, wa, wb, wc, hxr, hma.use ⟨_, rfl, Sub.refl _, fun e3 => ⟨ob, ne, y8, rd vs.sub (j := 7) rfl, obP k, _, vs.mk6, ?_⟩, fun e3 => ?_⟩⟩
          · have hss : (bif y8 == (best L).1 then IntKind.i64.wrap (n66 + 1) else n66) = (cntM (fun m => markedM m && mark_ m == (best L).1) (L.take (i + 1)) : Nat) := by rw [cnt_bif h66 (cl _), hcm, hm_, e3, Bool.true_and]
            generalize (bif w1 != 0 then IntKind.i64.wrap (n67 + 1) else n67) = lf at hlf ⊢
            generalize (bif y8 == (best L).1 then IntKind.i64.wrap (n66 + 1) else n66) = ss at hss ⊢
            exact key lf ss ⟨hlf, hss⟩
          · have e3' : mm = false := by simpa using e3
            have hss : n66 = (cntM (fun m => markedM m && mark_ m == (best L).1) (L.take (i + 1)) : Nat) := by rw [h66, hcm, hm_, e3']; simp
            generalize (bif w1 != 0 then IntKind.i64.wrap (n67 + 1) else n67) = lf at hlf ⊢
            exact key lf n66 ⟨hlf, hss⟩
        · have e2' : (w0 != 0) = true := by simpa using e2
          have hlf : IntKind.i64.wrap (n67 + 1) = (cntM leftM (L.take (i + 1)) : Nat) := by
            have := cnt_bif (b := true) h67 (cl _)
            rw [cond_true] at this
            rw [this, hcl, hl_, e2', Bool.true_or]
          refine ⟨H69, Sub.refl _, ob, y1, y2, y3, y4, y5, y6, y7, y8, y9, y10, ya, yb, yc, za, zb, zc, wa, wb, wc, hxr, hma.use ⟨_, rfl, Sub.refl _, fun e3 => ⟨ob, ne, y8, rd vs.sub (j := 7) rfl, obP k, _, vs.mk6, ?_⟩, fun e3 => ?_⟩⟩
          · have hss : (bif y8 == (best L).1 then IntKind.i64.wrap (n66 + 1) else n66) = (cntM (fun m => markedM m && mark_ m == (best L).1) (L.take (i + 1)) : Nat) := by rw [cnt_bif h66 (cl _), hcm, hm_, e3, Bool.true_and]
            generalize IntKind.i64.wrap (n67 + 1) = lf at hlf ⊢
            generalize (bif y8 == (best L).1 then IntKind.i64.wrap (n66 + 1) else n66) = ss at hss ⊢
            exact key lf ss ⟨hlf, hss⟩
          · have e3' : mm = false := by simpa using e3
            have hss : n66 = (cntM (fun m => markedM m && mark_ m == (best L).1) (L.take (i + 1)) : Nat) := by rw [h66, hcm, hm_, e3']; simp
            generalize IntKind.i64.wrap (n67 + 1) = lf at hlf ⊢
            exact key lf n66 ⟨hlf, hss⟩
      · rintro lf ss ⟨hlf, hss⟩
        refine ⟨H69, Sub.refl _, ob, y1, y2, y3, y4, y5, y6, y7, y8, y9, y10, ya, yb, yc, za, zb, zc, wa, wb, wc, hxr, obP k, _, _, _, _, vs.val2, hho.use ⟨_, rfl, fun e4 => ?_, fun e4 => ?_⟩⟩
        · rw [e4, if_pos rfl] at hst
          obtain ⟨s, o, b2, n2, c2, h1, h2, h3, h4⟩ := vs
          have hn2 := (h2.rd (E := iE) (sz := 1) (by omega) Rnd.iLen).len
          have hn2' : n2 ≤ 100000 := by rw [← hn2]; simp only; omega
          refine ⟨H69, Sub.refl _, obP k, b2, n2, c2, h1.fld rfl, ob, ne, y2, rd s (j := 1) rfl, fun k34 hk34 => ⟨Sub.upd _ hk34, ?_⟩⟩
          refine append_one Rnd.tI (E := iE) (x := y2) hk34 Rnd.iLen h2 rfl (Rnd.iOne _) (by simp [maxLen]; omega) (by omega) ?_
          intro b' q' H' how hf hfr _
          obtain ⟨H119, w119, vs119⟩ := VS.app s o h1 h3 h4 how hf hfr
          refine ⟨b', n2 + 1, q', rfl, obP k, H119, w119, ⟨by omega, by omega, ?_⟩, ⟨by simp only; omega⟩⟩
          rw [show ((i : Int) + 1).toNat = i + 1 by omega, hst]; exact ⟨rfl, hss, hlf, vs119⟩
        · rw [e4] at hst
          simp only [Bool.false_eq_true, if_false, List.append_nil] at hst
          refine ⟨⟨by omega, by omega, ?_⟩, ⟨by simp only; omega⟩⟩
          rw [show ((i : Int) + 1).toNat = i + 1 by omega, hst]; exact ⟨rfl, hss, hlf, vs⟩
    · have hi' : ¬ i < n := by simpa using hi
      rw [List.take_of_length_le (by omega)] at vs h65 h66 h67
      obtain ⟨H343, w343, vs343⟩ := vs.put (w' := ⟨decide ((cntM soundM L : Int) ≥ p.n - p.w + 1), false, (best L).2, (best L).1, _⟩) (i := 0) (x := .bool (decide ((cntM soundM L : Int) ≥ p.n - p.w + 1))) (fun _ _ _ => rfl) rfl (by decide)
      have hd : decide (n65 ≥ IntKind.i64.wrap (IntKind.i64.wrap (p.n - p.w) + 1)) = decide ((cntM soundM L : Int) ≥ p.n - p.w + 1) := by
        rw [h65, wrap64 (n := p.n - p.w) (by omega) (by omega), wrap64 (by omega) (by omega)]
      rw [hd]
      refine ⟨obP k, H343, w343, fun e1 => ⟨obP k, _, vs343.mk6, fun e2 => ?_, fun e2 => ?_⟩, fun e1 => ?_⟩
      · obtain ⟨H77, w77, vs77⟩ := vs343.put (w' := verdW p L _) (i := 1) (x := .bool (decide (n66 ≥ p.w))) (fun _ _ _ => by
          have e1' : (cntM leftM L == 0) = true := by simpa [h67] using e1
          have e2' : ((best L).1 == 0) = false := e2
          simp only [verdW, Verd.cs, e1', e2', Bool.true_and, Bool.false_or, List.set, h66]) rfl (by decide)
        obtain ⟨b, m, q, hr, hg⟩ := vs77.done
        exact ⟨obP k, H77, w77, _, _, _, _, _, _, _, _, _, _, hr, hg⟩
      · obtain ⟨H77, w77, vs77⟩ := vs343.put (w' := verdW p L _) (i := 1) (x := .bool true) (fun _ _ _ => by
          have e1' : (cntM leftM L == 0) = true := by simpa [h67] using e1
          have e2' : ((best L).1 == 0) = true := by simpa using e2
          simp only [verdW, Verd.cs, e1', e2', Bool.true_and, Bool.true_or, List.set]) rfl (by decide)
        obtain ⟨b, m, q, hr, hg⟩ := vs77.done
        exact ⟨obP k, H77, w77, _, _, _, _, _, _, _, _, _, _, hr, hg⟩
      · obtain ⟨H77, w77, vs77⟩ := vs343.put (w' := verdW p L _) (i := 1) (x := .bool false) (fun _ _ _ => by
          have e1' : (cntM leftM L == 0) = false := by simpa [h67] using e1
          simp only [verdW, Verd.cs, e1', Bool.false_and, List.set]) rfl (by decide)
        obtain ⟨b, m, q, hr, hg⟩ := vs77.done
        exact ⟨obP k, H77, w77, _, _, _, _, _, _, _, _, _, _, hr, hg⟩
end Go.Stl
namespace Go.Agr
open Go.Vx Go.Vc Go.Proofs Go.Pln Go.Stl
open Go.Rnd (takesG insG froms againG)
abbrev Msg := Rnd.Msg
structure St where
  p : Plan
  ballot : Int
  name : ByteArray
  force : Bool
  live : Bool
  over : Bool
  mark : Int
  asks : List Msg
  wait : List Int
  G : List Msg
  tries : Int
  ok : Bool
  fixed : Bool
  value : Val
  holders : List Int
  acks : List Int
  said : List Msg
def ids (p : Plan) : List Int := (List.range p.n.toNat).map fun i : Nat => (i : Int) + 1
theorem ids_len (p : Plan) : (ids p).length = p.n.toNat := by simp [ids]
def askAll (p : Plan) (b : Int) (nm : ByteArray) (m : Msg) : List Msg := (ids p).map fun i => (m.1, m.2.1, i, b, nm, m.2.2.2.2.2)
def mask : Msg := (1, 0, 0, 0, ⟨#[]⟩, 0, 0, 0, 0, 0, ⟨none, 0, 0, []⟩, ⟨none, 0, 0, []⟩, ⟨none, 0, 0, []⟩)
def mfix (mark : Int) (v : Val) : Msg := (4, 0, 0, 0, ⟨#[]⟩, if v.pr then v.at_ else 0, if v.pr then v.ep else 0, mark, if v.pr then v.sz else 0, if v.pr then 1 else 0, ⟨none, 0, 0, []⟩, ⟨none, 0, 0, []⟩, ⟨none, 0, 0, []⟩)
def St.ask (s : St) (m : Msg) : St × List Msg := ({ s with asks := askAll s.p s.ballot s.name m, wait := ids s.p, G := [], tries := maxI s.p.r 0 }, askAll s.p s.ballot s.name m)
def St.fix (s : St) (v : Val) : St × List Msg := St.ask { s with fixed := true, value := v } (mfix s.mark v)
def St.end_ (s : St) (ok : Bool) : St := { s with over := true, ok := ok }
def allG (wait : List Int) (G : List Msg) : Bool := wait.all fun i => decide (i ∈ froms G)
def ackL (G : List Msg) : List Msg := G.filter fun m => kind_ m == 17
def St.counted (s : St) : St := { s with acks := (ackL s.G).map from_, holders := holdL s.value (ackL s.G) }
def St.num (s : St) : Nat := if s.live then (holdL s.value (ackL s.G)).length else (ackL s.G).length
def St.judge0 (s : St) : St × List Msg :=
  if (verd s.p s.G).enough then
    if (verd s.p s.G).clean && !s.force then (St.end_ { s with said := s.G, value := (verd s.p s.G).value, holders := (verd s.p s.G).holders } true, [])
    else St.fix { s with said := s.G } (verd s.p s.G).value
  else if allG s.wait s.G then (s.end_ false, []) else (s, [])
def St.judge1 (s : St) : St × List Msg :=
  if decide ((s.num : Int) ≥ s.p.w) || allG s.wait s.G then (s.counted.end_ (decide ((s.num : Int) ≥ s.p.w)), []) else (s.counted, [])
def St.judge (s : St) : St × List Msg := if s.fixed then s.judge1 else s.judge0
def St.takes (s : St) (m : Msg) : Bool :=
  m.2.2.2.1 == s.ballot && eqS m.2.2.2.2.1 s.name &&
    (if s.fixed then
      (if kind_ m == 16 then what_ m == 4 && mark_ m == s.mark
       else kind_ m == 17 && mark_ m == s.mark && (if s.value.pr then (what_ m == 2 || what_ m == 3) && att_ m == s.value.at_ && ep_ m == s.value.ep else what_ m == 4))
     else kind_ m == 14)
def St.got (s : St) (m : Msg) : St := { s with G := insG s.G m }
def St.take (s : St) (m : Msg) : St × List Msg :=
  if s.over then (s, []) else if s.takes m && takesG s.wait s.G m then
    if allG s.wait (insG s.G m) then (s.got m).judge else (s.got m, [])
  else (s, [])
def St.late (s : St) : St × List Msg := if s.tries = 0 then (s.end_ false, []) else ({ s with tries := IntKind.i64.wrap (s.tries - 1) }, againG s.asks s.G)
def St.tick (s : St) : St × List Msg :=
  if s.over then (s, []) else if s.judge.1.over || (s.judge.1.fixed != s.fixed) then s.judge else s.judge.1.late
structure Same (s t : St) : Prop where
  p : t.p = s.p
  fixed : t.fixed = s.fixed
  tries : t.tries = s.tries
  wait : t.wait = s.wait
  G : t.G = s.G
  asks : t.asks = s.asks
  mark : t.mark = s.mark
/-- A judgement: the same round goes on, with nothing to ask; or a value begins to be fixed. -/
theorem judge_cases (s : St) : (Same s s.judge.1 ∧ s.judge.2 = []) ∨ (s.fixed = false ∧ ∃ t v, Same s t ∧ t.over = s.over ∧ t.ok = s.ok ∧ v = (verd s.p s.G).value ∧ (verd s.p s.G).enough = true ∧ s.judge = t.fix v) := by
  unfold St.judge
  cases hf : s.fixed with
  | true =>
    left
    simp only [if_true]
    unfold St.judge1
    split
    · exact ⟨⟨rfl, rfl, rfl, rfl, rfl, rfl, rfl⟩, rfl⟩
    · exact ⟨⟨rfl, rfl, rfl, rfl, rfl, rfl, rfl⟩, rfl⟩
  | false =>
    simp only [Bool.false_eq_true, if_false]
    unfold St.judge0
    cases he : (verd s.p s.G).enough with
    | true =>
      simp only [if_true]
      split
      · exact .inl ⟨⟨rfl, rfl, rfl, rfl, rfl, rfl, rfl⟩, rfl⟩
      · exact .inr ⟨by first | rfl | trivial, { s with said := s.G }, _, ⟨rfl, rfl, rfl, rfl, rfl, rfl, rfl⟩, rfl, rfl, rfl, by first | rfl | trivial, rfl⟩
    | false =>
      left
      simp only [Bool.false_eq_true, if_false]
      split
      · exact ⟨⟨rfl, rfl, rfl, rfl, rfl, rfl, rfl⟩, rfl⟩
      · exact ⟨⟨rfl, rfl, rfl, rfl, rfl, rfl, rfl⟩, rfl⟩
theorem fix_over (s : St) (v : Val) : (s.fix v).1.over = s.over := rfl
def St.bd (s : St) : Int := if s.fixed then 2 * maxI s.p.r 0 + 1 else maxI s.p.r 0
/-- So many ticks went by. -/
def Went (t : Int) (s : St) : Prop := s.over = true ∨ (t + s.tries ≤ s.bd ∧ 0 ≤ s.tries ∧ s.tries ≤ 100000 ∧ 0 ≤ maxI s.p.r 0 ∧ maxI s.p.r 0 ≤ 100000)
end Go.Agr
namespace Go.Vc
open Go.Vx Go Go.Proofs.Tryz
def planAll.cx : Cx := ⟨[1], [], [], []⟩
def planAll1.cx : Cx := ⟨[], [(3, [2, 6], [])], [], []⟩
def planOfL.cx : Cx := ⟨[], [], [], []⟩
def refPAll.cx : Cx := ⟨[], [(3, [3, 4], [])], [], []⟩
theorem planAll.vc (n1 n2 n3 n4 n5 n6 : Int) (H : PHeap) (Q : Value -> PHeap -> Prop)
 (h : ∀ (k7 : Nat), H k7 = none -> ∃ n8 n9 n10 n11 n12 n13, Reads (H.upd k7 (Obj.cells #[iw n1, iw n2, iw n3, iw n4, iw n5, iw n6] 23)) (at0 k7) [iw n8, iw n9, iw n10, iw n11, iw n12, iw n13] /\ Triple prog 119
 #[.agg #[iw n8, iw n9, iw n10, iw n11, iw n12, iw n13], Value.func (Fn.func 120) #[] #[.pointer (at0 k7)]] (H.upd k7 (Obj.cells #[iw n1, iw n2, iw n3, iw n4, iw n5, iw n6] 23))
 fun v14 H15 => ∃ a16 k17 k18, v14 = sw a16 k17 k18 /\ Q (sw a16 k17 k18) H15) : Triple prog 85 ([.agg #[iw n1, iw n2, iw n3, iw n4, iw n5, iw n6]]).toArray H Q := Triple.of_vc planAll.cx (by kernel_rfl) h
theorem planAll1.vc (a1 : Option Addr) (H : PHeap) (Q : Value -> PHeap -> Prop)
 (h : Ob (a1 ≠ none) /\ ∃ n2, Reads H (fldA a1 0) [iw n2] /\ ∃ (R3 : Rl) (M4 : Mu), R3 [sw none 0 0, iw 0] H /\ ∀ (a5 : Option Addr) (k6 k7 : Nat) (n8 : Int) (H9 : PHeap), R3 [sw a5 k6 k7, iw n8] H9 ->
 (decide (n8 < n2) = true -> ∀ (k10 : Nat), H9 k10 = none -> EvV prog (Builtin.append_ #[42, 42] 42 #[sw a5 k6 k7, sw (at0 k10) 1 1]) (H9.upd k10 (Obj.cells #[iw (IntKind.i64.wrap (n8 + 1))] 3)) fun v11 H12 =>
 ∃ a13 k14 k15, v11 = sw a13 k14 k15 /\ R3 [sw a13 k14 k15, iw (IntKind.i64.wrap (n8 + 1))] H12 /\ Less (M4 [sw a13 k14 k15, iw (IntKind.i64.wrap (n8 + 1))] H12) (M4 [sw a5 k6 k7, iw n8] H9)) /\
 (decide (n8 < n2) = false -> Q (sw a5 k6 k7) H9)) : Triple prog 120 ([.pointer a1]).toArray H Q := Triple.of_vc planAll1.cx (by kernel_rfl) h
theorem planOfL.vc (n1 n2 n3 n4 n5 n6 : Int) (v7 : Value) (H : PHeap) (Q : Value -> PHeap -> Prop)
 (h : Triple prog 19 #[.agg #[iw n1, iw n2, iw n3, iw n4, iw n5, iw n6]] H fun v8 H9 => ∃ b10, v8 = .bool b10 /\
 ((!b10) = true -> Q (sw none 0 0) H9) /\ ((!b10) = false -> CallY prog v7 #[] H9 fun v11 H12 => ∃ a13 k14 k15, v11 = sw a13 k14 k15 /\ Q (sw a13 k14 k15) H12)) :
 Triple prog 119 ([.agg #[iw n1, iw n2, iw n3, iw n4, iw n5, iw n6], v7]).toArray H Q := Triple.of_vc planOfL.cx (by kernel_rfl) h
theorem refPAll.vc (n1 n2 n3 n4 n5 n6 : Int) (H : PHeap) (Q : Value -> PHeap -> Prop)
 (h : ∃ (R7 : Rl) (M8 : Mu), R7 [sw none 0 0, iw 1] H /\ ∀ (a9 : Option Addr) (k10 k11 : Nat) (n12 : Int) (H13 : PHeap), R7 [sw a9 k10 k11, iw n12] H13 -> (decide (n12 ≤ n1) = true -> ∀ (k14 : Nat), H13 k14 = none ->
 EvV prog (Builtin.append_ #[42, 42] 42 #[sw a9 k10 k11, sw (at0 k14) 1 1]) (H13.upd k14 (Obj.cells #[iw n12] 3)) fun v15 H16 => ∃ a17 k18 k19, v15 = sw a17 k18 k19 /\
 R7 [sw a17 k18 k19, iw (IntKind.i64.wrap (n12 + 1))] H16 /\ Less (M8 [sw a17 k18 k19, iw (IntKind.i64.wrap (n12 + 1))] H16) (M8 [sw a9 k10 k11, iw n12] H13)) /\ (decide (n12 ≤ n1) = false -> Q (sw a9 k10 k11) H13)) :
 Triple prog 28 ([.agg #[iw n1, iw n2, iw n3, iw n4, iw n5, iw n6]]).toArray H Q := Triple.of_vc refPAll.cx (by kernel_rfl) h
end Go.Vc
namespace Go.Vc
open Go.Vx Go Go.Proofs.Tryz
def agSettle.cx : Cx := ⟨[], [], [], []⟩
def agBegin.cx : Cx := ⟨[14], [], [], []⟩
def agAll.cx : Cx := ⟨[3], [(4, [5, 24], [])], [], []⟩
def agFixM.cx : Cx := ⟨[5], [], [], []⟩
def agEnd.cx : Cx := ⟨[], [], [], []⟩
def agAsked.cx : Cx := ⟨[], [], [], []⟩
def agFixed.cx : Cx := ⟨[], [(4, [3, 17], [])], [], []⟩
def agTakes.cx : Cx := ⟨[], [], [], []⟩
def agTake.cx : Cx := ⟨[], [], [], []⟩
def agTick.cx : Cx := ⟨[], [], [], []⟩
def agDone.cx : Cx := ⟨[], [], [], []⟩
theorem agSettle.vc (n1 n2 n3 n4 n5 n6 n7 : Int) (s8 : ByteArray) (b9 : Bool) (H : PHeap) (Q : Value -> PHeap -> Prop)
 (h : Triple prog 92 #[.agg #[iw n1, iw n2, iw n3, iw n4, iw n5, iw n6], iw n7, .string s8] H fun v10 H11 => ∃ a12, v10 = .pointer a12 /\ Ob (a12 ≠ none) /\ Ob (a12 ≠ none) /\ ∃ b13,
 Reads H11 (fldA a12 10) [.bool b13] /\ (b13 = true -> Q (.tuple #[.pointer a12, sw none 0 0]) H11) /\ (b13 = false -> Ob (a12 ≠ none) /\ Ob (a12 ≠ none) /\ ∃ H14, Writes H11 H14 (fldA a12 8) [.bool b9] /\
 Ob (a12 ≠ none) /\ Ob (a12 ≠ none) /\ ∃ H15, Writes H14 H15 (fldA a12 13) [Value.func (Fn.func 93) #[] #[]] /\ Ob (a12 ≠ none) /\ Ob (a12 ≠ none) /\ ∃ H16,
 Writes H15 H16 (fldA a12 11) [iw (IntKind.i64.wrap (2 * n7))] /\ Triple prog 94 #[.pointer a12, Value.agg #[iw 1, iw 0, iw 0, iw 0, .string ({ data := #[] } : ByteArray), iw 0, iw 0, iw 0, iw 0, iw 0, sw none 0 0,
 sw none 0 0, sw none 0 0]] H16 fun v17 H18 => ∃ a19 k20 k21, v17 = sw a19 k20 k21 /\ Q (.tuple #[.pointer a12, sw a19 k20 k21]) H18)) : Triple prog 57 ([.agg #[iw n1, iw n2, iw n3, iw n4, iw n5, iw n6], iw n7,
 .string s8, .bool b9]).toArray H Q := Triple.of_vc agSettle.cx (by kernel_rfl) h
theorem agBegin.vc (n1 n2 n3 n4 n5 n6 n7 : Int) (s8 : ByteArray) (H : PHeap) (Q : Value -> PHeap -> Prop)
 (h : ∃ H9, Vx.Sub H9 H /\ Triple prog 19 #[.agg #[iw n1, iw n2, iw n3, iw n4, iw n5, iw n6]] H fun v10 H11 => ∃ b12, v10 = .bool b12 /\ Vx.Sub H9 H11 /\ ∀ (k13 : Nat), H11 k13 = none -> Q (.pointer (at0 k13))
 (H11.upd k13 (Obj.cells #[iw n1, iw n2, iw n3, iw n4, iw n5, iw n6, iw n7, .string s8, .bool false, .bool false, .bool !b12, iw 0, .pointer none, Value.nilFunc, .bool false,
 .bool false, .bool false, iw 0, iw 0, iw 0, sw none 0 0, sw none 0 0, sw none 0 0] 115))) : Triple prog 92 ([.agg #[iw n1, iw n2, iw n3, iw n4, iw n5, iw n6], iw n7, .string s8]).toArray H Q :=
 Triple.of_vc agBegin.cx (by kernel_rfl) h
theorem agAll.vc (a1 : Option Addr) (n2 n3 n4 n5 : Int) (s6 : ByteArray) (n7 n8 n9 n10 n11 : Int) (a12 : Option Addr) (k13 k14 : Nat) (a15 : Option Addr) (k16 k17 : Nat) (a18 : Option Addr) (k19 k20 : Nat) (H : PHeap) (Q : Value -> PHeap -> Prop)
 (h : ∀ (k21 : Nat), H k21 = none -> ∃ H22, Vx.Sub H22 (H.upd k21 (Obj.cells #[iw n2, iw n3, iw n4, iw n5, .string s6, iw n7, iw n8, iw n9, iw n10, iw n11, sw a12 k13 k14, sw a15 k16 k17, sw a18 k19 k20] 52)) /\
 Ob (a1 ≠ none) /\ Ob (a1 ≠ none) /\ ∃ n23, Reads H22 (fldA a1 6) [iw n23] /\ Ob (a1 ≠ none) /\ Ob (a1 ≠ none) /\ ∃ s24, Reads H22 (fldA a1 7) [.string s24] /\ Ob (at0 k21 ≠ none) /\ ∃ H25, Writes (H.upd k21 (Obj.cells
 #[iw n2, iw n3, iw n4, iw n5, .string s6, iw n7, iw n8, iw n9, iw n10, iw n11, sw a12 k13 k14, sw a15 k16 k17, sw a18 k19 k20] 52)) H25 (fldA (at0 k21) 3) [iw n23] /\ Vx.Sub H22 H25 /\ Ob (at0 k21 ≠ none) /\ ∃ H26,
 Writes H25 H26 (fldA (at0 k21) 4) [.string s24] /\ Ob (a1 ≠ none) /\ Ob (a1 ≠ none) /\ ∃ n27 n28 n29 n30 n31 n32, Reads H26 (fldA a1 0) [iw n27, iw n28, iw n29, iw n30, iw n31, iw n32] /\ Triple prog 85 #[Value.agg
 #[iw n27, iw n28, iw n29, iw n30, iw n31, iw n32]] H26 fun v33 H34 => ∃ a35 k36 k37, v33 = sw a35 k36 k37 /\ ∃ (R38 : Rl) (M39 : Mu), R38 [sw none 0 0, iw 0] H34 /\
 ∀ (a40 : Option Addr) (k41 k42 : Nat) (n43 : Int) (H44 : PHeap), R38 [sw a40 k41 k42, iw n43] H44 -> (decide (n43 < (k36 : Int)) = true -> Ob (a35 ≠ none /\ 0 ≤ n43 /\ n43 < (k36 : Int)) /\ ∃ n45,
 Reads H44 (elemA a35 n43 1) [iw n45] /\ Ob (at0 k21 ≠ none) /\ ∃ H46, Writes H44 H46 (fldA (at0 k21) 2) [iw n45] /\ ∃ n47 n48 n49 n50 s51 n52 n53 n54 n55 n56 a57 k58 k59 a60 k61 k62 a63 k64 k65, Reads H46 (at0 k21)
 [iw n47, iw n48, iw n49, iw n50, .string s51, iw n52, iw n53, iw n54, iw n55, iw n56, sw a57 k58 k59, sw a60 k61 k62, sw a63 k64 k65] /\ ∀ (k66 : Nat), H46 k66 = none -> EvV prog
 (Builtin.append_ #[28, 28] 28 #[sw a40 k41 k42, sw (at0 k66) 1 1]) (H46.upd k66 (Obj.cells #[iw n47, iw n48, iw n49, iw n50, .string s51, iw n52, iw n53, iw n54, iw n55, iw n56, sw a57 k58 k59, sw a60 k61 k62,
 sw a63 k64 k65] 52)) fun v67 H68 => ∃ a69 k70 k71, v67 = sw a69 k70 k71 /\ R38 [sw a69 k70 k71, iw (IntKind.i64.wrap (n43 + 1))] H68 /\ Less (M39 [sw a69 k70 k71, iw (IntKind.i64.wrap (n43 + 1))] H68)
 (M39 [sw a40 k41 k42, iw n43] H44)) /\ (decide (n43 < (k36 : Int)) = false -> ∃ H72, Vx.Sub H72 H44 /\ Ob (a1 ≠ none) /\ Ob (a1 ≠ none) /\ Ob (fldA a1 0 ≠ none) /\ ∃ n73, Reads H72 (fldA (fldA a1 0) 5) [iw n73] /\
 Ob (a1 ≠ none) /\ Ob (a1 ≠ none) /\ ∃ n74 n75 n76 n77 n78 n79, Reads H72 (fldA a1 0) [iw n74, iw n75, iw n76, iw n77, iw n78, iw n79] /\ Triple prog 85 #[Value.agg #[iw n74, iw n75, iw n76, iw n77, iw n78, iw n79]]
 H44 fun v80 H81 => ∃ a82 k83 k84, v80 = sw a82 k83 k84 /\ Vx.Sub H72 H81 /\ Triple prog 100 #[iw n73, sw a40 k41 k42, sw a82 k83 k84] H81 fun v85 H86 => ∃ a87, v85 = .pointer a87 /\ Ob (a1 ≠ none) /\ Ob (a1 ≠ none) /\
 ∃ H88, Writes H86 H88 (fldA a1 12) [.pointer a87] /\ Q (sw a40 k41 k42) H88)) : Triple prog 94 ([.pointer a1, Value.agg #[iw n2, iw n3, iw n4, iw n5, .string s6, iw n7, iw n8,
 iw n9, iw n10, iw n11, sw a12 k13 k14, sw a15 k16 k17, sw a18 k19 k20]]).toArray H Q := Triple.of_vc agAll.cx (by kernel_rfl) h
theorem agFixM.vc (a1 : Option Addr) (b2 : Bool) (n3 n4 n5 : Int) (H : PHeap) (Q : Value -> PHeap -> Prop)
 (h : ∃ H6, Vx.Sub H6 H /\ Ob (a1 ≠ none) /\ Ob (a1 ≠ none) /\ Ob (fldA a1 14 ≠ none) /\ ∃ H7, Writes H H7 (fldA (fldA a1 14) 1) [.bool true] /\ Vx.Sub H6 H7 /\ Ob (a1 ≠ none) /\ Ob (a1 ≠ none) /\
 Ob (fldA a1 14 ≠ none) /\ ∃ H8, Writes H7 H8 (fldA (fldA a1 14) 2) [.bool b2, iw n3, iw n4, iw n5] /\ Ob (a1 ≠ none) /\ Ob (a1 ≠ none) /\ ∃ H9, Writes H8 H9 (fldA a1 13) [Value.func (Fn.func 165) #[] #[]] /\
 Ob (a1 ≠ none) /\ Ob (a1 ≠ none) /\ ∃ n10, Reads H9 (fldA a1 11) [iw n10] /\ ∀ (k11 : Nat), H9 k11 = none -> ∃ H12, Writes (H9.upd k11 (Obj.cells #[iw 0, iw 0, iw 0, iw 0, .string ({ data := #[] } : ByteArray),
 iw 0, iw 0, iw 0, iw 0, iw 0, sw none 0 0, sw none 0 0, sw none 0 0] 52)) H12 (at0 k11) [iw 4, iw 0, iw 0, iw 0, .string ({ data := #[] } : ByteArray), iw 0, iw 0, iw n10, iw 0, iw 0,
 sw none 0 0, sw none 0 0, sw none 0 0] /\ (b2 = true -> ∃ H13, Vx.Sub H13 H12 /\ Ob (at0 k11 ≠ none) /\ ∃ H14, Writes H12 H14 (fldA (at0 k11) 9) [iw 1] /\ Vx.Sub H13 H14 /\ Ob (at0 k11 ≠ none) /\ ∃ H15,
 Writes H14 H15 (fldA (at0 k11) 5) [iw n3] /\ Vx.Sub H13 H15 /\ Ob (at0 k11 ≠ none) /\ ∃ H16, Writes H15 H16 (fldA (at0 k11) 6) [iw n4] /\ Vx.Sub H13 H16 /\ Ob (at0 k11 ≠ none) /\ ∃ H17,
 Writes H16 H17 (fldA (at0 k11) 8) [iw n5] /\ ∃ n18 n19 n20 n21 s22 n23 n24 n25 n26 n27 a28 k29 k30 a31 k32 k33 a34 k35 k36, Reads H17 (at0 k11) [iw n18, iw n19, iw n20, iw n21, .string s22, iw n23, iw n24,
 iw n25, iw n26, iw n27, sw a28 k29 k30, sw a31 k32 k33, sw a34 k35 k36] /\ Triple prog 94 #[.pointer a1, Value.agg #[iw n18, iw n19, iw n20, iw n21, .string s22, iw n23, iw n24, iw n25, iw n26, iw n27,
 sw a28 k29 k30, sw a31 k32 k33, sw a34 k35 k36]] H17 fun v37 H38 => ∃ a39 k40 k41, v37 = sw a39 k40 k41 /\ Q (sw a39 k40 k41) H38) /\ (b2 = false ->
 ∃ n42 n43 n44 n45 s46 n47 n48 n49 n50 n51 a52 k53 k54 a55 k56 k57 a58 k59 k60, Reads H12 (at0 k11) [iw n42, iw n43, iw n44, iw n45, .string s46, iw n47, iw n48, iw n49, iw n50, iw n51,
 sw a52 k53 k54, sw a55 k56 k57, sw a58 k59 k60] /\ Triple prog 94 #[.pointer a1, Value.agg #[iw n42, iw n43, iw n44, iw n45, .string s46, iw n47, iw n48, iw n49, iw n50, iw n51,
 sw a52 k53 k54, sw a55 k56 k57, sw a58 k59 k60]] H12 fun v61 H62 => ∃ a63 k64 k65, v61 = sw a63 k64 k65 /\ Q (sw a63 k64 k65) H62)) :
 Triple prog 136 ([.pointer a1, .agg #[.bool b2, iw n3, iw n4, iw n5]]).toArray H Q := Triple.of_vc agFixM.cx (by kernel_rfl) h
theorem agEnd.vc (a1 : Option Addr) (b2 : Bool) (H : PHeap) (Q : Value -> PHeap -> Prop)
 (h : Ob (a1 ≠ none) /\ Ob (a1 ≠ none) /\
 ∃ H3, Writes H H3 (fldA a1 10) [.bool true] /\ Ob (a1 ≠ none) /\ Ob (a1 ≠ none) /\ Ob (fldA a1 14 ≠ none) /\ ∃ H4, Writes H3 H4 (fldA (fldA a1 14) 0) [.bool b2] /\ Q (sw none 0 0) H4) :
 Triple prog 69 ([.pointer a1, .bool b2]).toArray H Q := Triple.of_vc agEnd.cx (by kernel_rfl) h
theorem agAsked.vc (a1 : Option Addr) (H : PHeap) (Q : Value -> PHeap -> Prop)
 (h : Ob (a1 ≠ none) /\ Ob (a1 ≠ none) /\ ∃ a2, Reads H (fldA a1 12) [.pointer a2] /\ Triple prog 86 #[.pointer a2] H fun v3 H4 => ∃ a5 k6 k7, v3 = sw a5 k6 k7 /\ Ob (a1 ≠ none) /\ Ob (a1 ≠ none) /\
 ∃ n8 n9 n10 n11 n12 n13, Reads H4 (fldA a1 0) [iw n8, iw n9, iw n10, iw n11, iw n12, iw n13] /\ Triple prog 135 #[.agg #[iw n8, iw n9, iw n10, iw n11, iw n12, iw n13], sw a5 k6 k7] H4 fun v14 H15 =>
 ∃ b16 b17 b18 n19 n20 n21 n22 a23 k24 k25, v14 = Value.agg #[.bool b16, .bool b17, .bool b18, iw n19, iw n20, iw n21, iw n22, sw a23 k24 k25] /\ ((!b16) = true -> Ob (a1 ≠ none) /\ Ob (a1 ≠ none) /\ ∃ a26,
 Reads H15 (fldA a1 12) [.pointer a26] /\ Triple prog 45 #[.pointer a26] H15 fun v27 H28 => ∃ b29, v27 = .bool b29 /\ (b29 = true -> Triple prog 69 #[.pointer a1, .bool false] H28 fun v30 H31 =>
 ∃ a32 k33 k34, v30 = sw a32 k33 k34 /\ Q (sw a32 k33 k34) H31) /\ (b29 = false -> ((!b16) = true -> Q (sw none 0 0) H28) /\ ((!b16) = false -> Ob (a1 ≠ none) /\ Ob (a1 ≠ none) /\ Ob (fldA a1 14 ≠ none) /\ ∃ H35,
 Writes H28 H35 (fldA (fldA a1 14) 8) [sw a5 k6 k7] /\ (b17 = true -> Ob (a1 ≠ none) /\ Ob (a1 ≠ none) /\ ∃ b36, Reads H35 (fldA a1 8) [.bool b36] /\ ((!b36) = true -> ∃ H37, Vx.Sub H37 H35 /\ Ob (a1 ≠ none) /\
 Ob (a1 ≠ none) /\ Ob (fldA a1 14 ≠ none) /\ ∃ H38, Writes H35 H38 (fldA (fldA a1 14) 2) [.bool b18, iw n19, iw n20, iw n21] /\ Vx.Sub H37 H38 /\ Ob (a1 ≠ none) /\ Ob (a1 ≠ none) /\ Ob (fldA a1 14 ≠ none) /\ ∃ H39,
 Writes H38 H39 (fldA (fldA a1 14) 6) [sw a23 k24 k25] /\ Triple prog 69 #[.pointer a1, .bool true] H39 fun v40 H41 => ∃ a42 k43 k44, v40 = sw a42 k43 k44 /\ Q (sw a42 k43 k44) H41) /\ ((!b36) = false -> Triple prog 136
 #[.pointer a1, .agg #[.bool b18, iw n19, iw n20, iw n21]] H35 fun v45 H46 => ∃ a47 k48 k49, v45 = sw a47 k48 k49 /\ Q (sw a47 k48 k49) H46)) /\ (b17 = !true -> Triple prog 136
 #[.pointer a1, .agg #[.bool b18, iw n19, iw n20, iw n21]] H35 fun v50 H51 => ∃ a52 k53 k54, v50 = sw a52 k53 k54 /\ Q (sw a52 k53 k54) H51)))) /\ ((!b16) = !true -> ((!b16) = true -> Q (sw none 0 0) H15) /\
 ((!b16) = false -> Ob (a1 ≠ none) /\ Ob (a1 ≠ none) /\ Ob (fldA a1 14 ≠ none) /\ ∃ H55, Writes H15 H55 (fldA (fldA a1 14) 8) [sw a5 k6 k7] /\ (b17 = true -> Ob (a1 ≠ none) /\ Ob (a1 ≠ none) /\ ∃ b56,
 Reads H55 (fldA a1 8) [.bool b56] /\ ((!b56) = true -> ∃ H57, Vx.Sub H57 H55 /\ Ob (a1 ≠ none) /\ Ob (a1 ≠ none) /\ Ob (fldA a1 14 ≠ none) /\ ∃ H58, Writes H55 H58 (fldA (fldA a1 14) 2)
 [.bool b18, iw n19, iw n20, iw n21] /\ Vx.Sub H57 H58 /\ Ob (a1 ≠ none) /\ Ob (a1 ≠ none) /\ Ob (fldA a1 14 ≠ none) /\ ∃ H59, Writes H58 H59 (fldA (fldA a1 14) 6) [sw a23 k24 k25] /\
 Triple prog 69 #[.pointer a1, .bool true] H59 fun v60 H61 => ∃ a62 k63 k64, v60 = sw a62 k63 k64 /\ Q (sw a62 k63 k64) H61) /\ ((!b56) = false -> Triple prog 136
 #[.pointer a1, .agg #[.bool b18, iw n19, iw n20, iw n21]] H55 fun v65 H66 => ∃ a67 k68 k69, v65 = sw a67 k68 k69 /\ Q (sw a67 k68 k69) H66)) /\ (b17 = !true -> Triple prog 136
 #[.pointer a1, .agg #[.bool b18, iw n19, iw n20, iw n21]] H55 fun v70 H71 => ∃ a72 k73 k74, v70 = sw a72 k73 k74 /\ Q (sw a72 k73 k74) H71)))) : Triple prog 93 ([.pointer a1]).toArray H Q :=
 Triple.of_vc agAsked.cx (by kernel_rfl) h
theorem agFixed.vc (a1 : Option Addr) (H : PHeap) (Q : Value -> PHeap -> Prop)
 (h : Ob (a1 ≠ none) /\ Ob (a1 ≠ none) /\ Ob (fldA a1 14 ≠ none) /\ ∃ H2, Writes H H2 (fldA (fldA a1 14) 7) [sw none 0 0] /\ Ob (a1 ≠ none) /\ Ob (a1 ≠ none) /\ ∃ a3, Reads H2 (fldA a1 12) [.pointer a3] /\
 Triple prog 86 #[.pointer a3] H2 fun v4 H5 => ∃ a6 k7 k8, v4 = sw a6 k7 k8 /\ ∃ (R9 : Rl) (M10 : Mu), R9 [sw none 0 0, iw 0] H5 /\ ∀ (a11 : Option Addr) (k12 k13 : Nat) (n14 : Int) (H15 : PHeap),
 R9 [sw a11 k12 k13, iw n14] H15 -> (decide (n14 < (k7 : Int)) = true -> Ob (a6 ≠ none /\ 0 ≤ n14 /\ n14 < (k7 : Int)) /\ ∃ n16 n17 n18 n19 s20 n21 n22 n23 n24 n25 a26 k27 k28 a29 k30 k31 a32 k33 k34,
 Reads H15 (elemA a6 n14 13) [iw n16, iw n17, iw n18, iw n19, .string s20, iw n21, iw n22, iw n23, iw n24, iw n25, sw a26 k27 k28, sw a29 k30 k31, sw a32 k33 k34] /\ ((n16 == 17) = true -> ∀ (k35 : Nat),
 H15 k35 = none -> EvV prog (Builtin.append_ #[28, 28] 28 #[sw a11 k12 k13, sw (at0 k35) 1 1]) (H15.upd k35 (Obj.cells #[iw n16, iw n17, iw n18, iw n19, .string s20, iw n21, iw n22, iw n23, iw n24, iw n25,
 sw a26 k27 k28, sw a29 k30 k31, sw a32 k33 k34] 52)) fun v36 H37 => ∃ a38 k39 k40, v36 = sw a38 k39 k40 /\ ∃ H41, Vx.Sub H41 H37 /\ Ob (a1 ≠ none) /\ Ob (a1 ≠ none) /\ Ob (fldA a1 14 ≠ none) /\ ∃ a42 k43 k44,
 Reads H41 (fldA (fldA a1 14) 7) [sw a42 k43 k44] /\ ∀ (k45 : Nat), H37 k45 = none -> Vx.Sub H41 (H37.upd k45 (Obj.cells #[iw n17] 3)) /\ EvV prog (Builtin.append_ #[42, 42] 42 #[sw a42 k43 k44, sw (at0 k45) 1 1])
 (H37.upd k45 (Obj.cells #[iw n17] 3)) fun v46 H47 => ∃ a48 k49 k50, v46 = sw a48 k49 k50 /\ Ob (a1 ≠ none) /\ Ob (a1 ≠ none) /\ Ob (fldA a1 14 ≠ none) /\ ∃ H51, Writes H47 H51 (fldA (fldA a1 14) 7) [sw a48 k49 k50] /\
 R9 [sw a38 k39 k40, iw (IntKind.i64.wrap (n14 + 1))] H51 /\ Less (M10 [sw a38 k39 k40, iw (IntKind.i64.wrap (n14 + 1))] H51) (M10 [sw a11 k12 k13, iw n14] H15)) /\ ((n16 == 17) = false ->
 R9 [sw a11 k12 k13, iw (IntKind.i64.wrap (n14 + 1))] H15 /\ Less (M10 [sw a11 k12 k13, iw (IntKind.i64.wrap (n14 + 1))] H15) (M10 [sw a11 k12 k13, iw n14] H15))) /\ (decide (n14 < (k7 : Int)) = false ->
 Ob (a1 ≠ none) /\ Ob (a1 ≠ none) /\ Ob (fldA a1 14 ≠ none) /\ ∃ b52 n53 n54 n55, Reads H15 (fldA (fldA a1 14) 2) [.bool b52, iw n53, iw n54, iw n55] /\ Triple prog 164
 #[sw a11 k12 k13, .agg #[.bool b52, iw n53, iw n54, iw n55]] H15 fun v56 H57 => ∃ a58 k59 k60, v56 = sw a58 k59 k60 /\ Ob (a1 ≠ none) /\ Ob (a1 ≠ none) /\ Ob (fldA a1 14 ≠ none) /\ ∃ H61,
 Writes H57 H61 (fldA (fldA a1 14) 6) [sw a58 k59 k60] /\ Ob (a1 ≠ none) /\ Ob (a1 ≠ none) /\ ∃ b62, Reads H61 (fldA a1 9) [.bool b62] /\ (b62 = true -> Ob (a1 ≠ none) /\ Ob (a1 ≠ none) /\ Ob (fldA a1 14 ≠ none) /\
 ∃ a63 k64 k65, Reads H61 (fldA (fldA a1 14) 6) [sw a63 k64 k65] /\ Ob (a1 ≠ none) /\ Ob (a1 ≠ none) /\ Ob (fldA a1 0 ≠ none) /\ ∃ n66, Reads H61 (fldA (fldA a1 0) 3) [iw n66] /\ (decide ((k64 : Int) ≥ n66) = false ->
 Ob (a1 ≠ none) /\ Ob (a1 ≠ none) /\ ∃ a67, Reads H61 (fldA a1 12) [.pointer a67] /\ Triple prog 45 #[.pointer a67] H61 fun v68 H69 => ∃ b70, v68 = .bool b70 /\ (b70 = true -> Ob (a1 ≠ none) /\ Ob (a1 ≠ none) /\
 Ob (fldA a1 0 ≠ none) /\ ∃ n71, Reads H69 (fldA (fldA a1 0) 3) [iw n71] /\ Triple prog 69 #[.pointer a1, .bool (decide ((k64 : Int) ≥ n71))] H69 fun v72 H73 => ∃ a74 k75 k76,
 v72 = sw a74 k75 k76 /\ Q (sw a74 k75 k76) H73) /\ (b70 = false -> Q (sw none 0 0) H69)) /\ (decide ((k64 : Int) ≥ n66) = !false -> Ob (a1 ≠ none) /\ Ob (a1 ≠ none) /\ Ob (fldA a1 0 ≠ none) /\ ∃ n77,
 Reads H61 (fldA (fldA a1 0) 3) [iw n77] /\ Triple prog 69 #[.pointer a1, .bool (decide ((k64 : Int) ≥ n77))] H61 fun v78 H79 => ∃ a80 k81 k82, v78 = sw a80 k81 k82 /\ Q (sw a80 k81 k82) H79)) /\ (b62 = false ->
 Ob (a1 ≠ none) /\ Ob (a1 ≠ none) /\ Ob (fldA a1 0 ≠ none) /\ ∃ n83, Reads H61 (fldA (fldA a1 0) 3) [iw n83] /\ (decide ((k12 : Int) ≥ n83) = false -> Ob (a1 ≠ none) /\ Ob (a1 ≠ none) /\ ∃ a84,
 Reads H61 (fldA a1 12) [.pointer a84] /\ Triple prog 45 #[.pointer a84] H61 fun v85 H86 => ∃ b87, v85 = .bool b87 /\ (b87 = true -> Ob (a1 ≠ none) /\ Ob (a1 ≠ none) /\ Ob (fldA a1 0 ≠ none) /\ ∃ n88,
 Reads H86 (fldA (fldA a1 0) 3) [iw n88] /\ Triple prog 69 #[.pointer a1, .bool (decide ((k12 : Int) ≥ n88))] H86 fun v89 H90 => ∃ a91 k92 k93, v89 = sw a91 k92 k93 /\ Q (sw a91 k92 k93) H90) /\
 (b87 = false -> Q (sw none 0 0) H86)) /\ (decide ((k12 : Int) ≥ n83) = !false -> Ob (a1 ≠ none) /\ Ob (a1 ≠ none) /\ Ob (fldA a1 0 ≠ none) /\ ∃ n94, Reads H61 (fldA (fldA a1 0) 3) [iw n94] /\
 Triple prog 69 #[.pointer a1, .bool (decide ((k12 : Int) ≥ n94))] H61 fun v95 H96 => ∃ a97 k98 k99, v95 = sw a97 k98 k99 /\ Q (sw a97 k98 k99) H96)))) : Triple prog 165 ([.pointer a1]).toArray H Q :=
 Triple.of_vc agFixed.cx (by kernel_rfl) h
theorem agTakes.vc (a1 : Option Addr) (n2 n3 n4 n5 : Int) (s6 : ByteArray) (n7 n8 n9 n10 n11 : Int) (a12 : Option Addr) (k13 k14 : Nat) (a15 : Option Addr) (k16 k17 : Nat) (a18 : Option Addr) (k19 k20 : Nat) (H : PHeap) (Q : Value -> PHeap -> Prop)
 (h : ∃ H21, Vx.Sub H21 H /\ Ob (a1 ≠ none) /\ Ob (a1 ≠ none) /\ ∃ n22, Reads H21 (fldA a1 6) [iw n22] /\ ((n5 != n22) = false -> Ob (a1 ≠ none) /\ Ob (a1 ≠ none) /\ ∃ s23, Reads H21 (fldA a1 7) [.string s23] /\
 ((!eqS s6 s23) = true -> Q (.bool false) H) /\ ((!eqS s6 s23) = false -> Ob (a1 ≠ none) /\ Ob (a1 ≠ none) /\ Ob (fldA a1 14 ≠ none) /\ ∃ b24 n25 n26 n27,
 Reads H (fldA (fldA a1 14) 2) [.bool b24, iw n25, iw n26, iw n27] /\ Ob (a1 ≠ none) /\ Ob (a1 ≠ none) /\ Ob (fldA a1 14 ≠ none) /\ ∃ b28, Reads H (fldA (fldA a1 14) 1) [.bool b28] /\
 ((!b28) = true -> Q (.bool (n2 == 14)) H) /\ ((!b28) = false -> ((n2 == 16) = true -> ∃ H29, Vx.Sub H29 H /\ ((n11 == 4) = true ->
 Ob (a1 ≠ none) /\ Ob (a1 ≠ none) /\ ∃ n30, Reads H29 (fldA a1 11) [iw n30] /\ Q (.bool (n9 == n30)) H) /\ ((n11 == 4) = !true -> Q (.bool false) H)) /\ ((n2 == 16) = false -> ∃ H31, Vx.Sub H31 H /\
 ((n2 != 17) = false -> Ob (a1 ≠ none) /\ Ob (a1 ≠ none) /\ ∃ n32, Reads H31 (fldA a1 11) [iw n32] /\ ((n9 != n32) = true -> Q (.bool false) H) /\ ((n9 != n32) = false -> ((!b24) = true -> Q (.bool (n11 == 4)) H) /\
 ((!b24) = false -> Q (Value.bool (bif n11 == 2 then bif n7 == n25 then n8 == n26 else false else bif n11 == 3 then bif n7 == n25 then n8 == n26 else false else false)) H))) /\
 ((n2 != 17) = !false -> Q (.bool false) H))))) /\ ((n5 != n22) = !false -> Q (.bool false) H)) : Triple prog 80 ([.pointer a1, Value.agg #[iw n2, iw n3, iw n4, iw n5, .string s6, iw n7, iw n8,
 iw n9, iw n10, iw n11, sw a12 k13 k14, sw a15 k16 k17, sw a18 k19 k20]]).toArray H Q := Triple.of_vc agTakes.cx (by kernel_rfl) h
theorem agTake.vc (a1 : Option Addr) (n2 n3 n4 n5 : Int) (s6 : ByteArray) (n7 n8 n9 n10 n11 : Int) (a12 : Option Addr) (k13 k14 : Nat) (a15 : Option Addr) (k16 k17 : Nat) (a18 : Option Addr) (k19 k20 : Nat) (H : PHeap) (Q : Value -> PHeap -> Prop)
 (h : ∃ H21, Vx.Sub H21 H /\ (a1.isNone = false -> Ob (a1 ≠ none) /\ Ob (a1 ≠ none) /\ ∃ b22, Reads H21 (fldA a1 10) [.bool b22] /\ (b22 = false -> Triple prog 80 #[.pointer a1, Value.agg
 #[iw n2, iw n3, iw n4, iw n5, .string s6, iw n7, iw n8, iw n9, iw n10, iw n11, sw a12 k13 k14, sw a15 k16 k17, sw a18 k19 k20]] H fun v23 H24 => ∃ b25, v23 = .bool b25 /\ Vx.Sub H21 H24 /\ ((!b25) = false ->
 Ob (a1 ≠ none) /\ Ob (a1 ≠ none) /\ ∃ a26, Reads H21 (fldA a1 12) [.pointer a26] /\ Triple prog 44 #[.pointer a26, Value.agg #[iw n2, iw n3, iw n4, iw n5, .string s6, iw n7,
 iw n8, iw n9, iw n10, iw n11, sw a12 k13 k14, sw a15 k16 k17, sw a18 k19 k20]] H24 fun v27 H28 => ∃ b29, v27 = .bool b29 /\ Vx.Sub H21 H28 /\ ((!b29) = false -> Ob (a1 ≠ none) /\ Ob (a1 ≠ none) /\ ∃ a30,
 Reads H21 (fldA a1 12) [.pointer a30] /\ Triple prog 45 #[.pointer a30] H28 fun v31 H32 => ∃ b33, v31 = .bool b33 /\ ((!b33) = true -> Q (sw none 0 0) H32) /\ ((!b33) = false -> Ob (a1 ≠ none) /\ Ob (a1 ≠ none) /\
 ∃ v34, Reads H32 (fldA a1 13) [v34] /\ CallY prog v34 #[.pointer a1] H32 fun v35 H36 => ∃ a37 k38 k39, v35 = sw a37 k38 k39 /\ Q (sw a37 k38 k39) H36)) /\ ((!b29) = !false -> Q (sw none 0 0) H28)) /\
 ((!b25) = !false -> Q (sw none 0 0) H24)) /\ (b22 = !false -> Q (sw none 0 0) H)) /\ (a1.isNone = !false -> Q (sw none 0 0) H)) : Triple prog 41 ([.pointer a1, Value.agg
 #[iw n2, iw n3, iw n4, iw n5, .string s6, iw n7, iw n8, iw n9, iw n10, iw n11, sw a12 k13 k14, sw a15 k16 k17, sw a18 k19 k20]]).toArray H Q := Triple.of_vc agTake.cx (by kernel_rfl) h
theorem agTick.vc (a1 : Option Addr) (H : PHeap) (Q : Value -> PHeap -> Prop)
 (h : (a1.isNone = false -> Ob (a1 ≠ none) /\ Ob (a1 ≠ none) /\ ∃ b2, Reads H (fldA a1 10) [.bool b2] /\ (b2 = true -> Q (sw none 0 0) H) /\ (b2 = false -> Ob (a1 ≠ none) /\ Ob (a1 ≠ none) /\ ∃ a3,
 Reads H (fldA a1 12) [.pointer a3] /\ Ob (a1 ≠ none) /\ Ob (a1 ≠ none) /\ ∃ v4, Reads H (fldA a1 13) [v4] /\ CallY prog v4 #[.pointer a1] H fun v5 H6 => ∃ a7 k8 k9, v5 = sw a7 k8 k9 /\ Ob (a1 ≠ none) /\
 Ob (a1 ≠ none) /\ ∃ b10, Reads H6 (fldA a1 10) [.bool b10] /\ (b10 = false -> Ob (a1 ≠ none) /\ Ob (a1 ≠ none) /\ ∃ a11, Reads H6 (fldA a1 12) [.pointer a11] /\ LookV prog (binOp .neq 66 (.pointer a11) (.pointer a3))
 H6 fun v12 => ∃ b13, v12 = .bool b13 /\ (b13 = true -> Q (sw a7 k8 k9) H6) /\ (b13 = false -> Ob (a1 ≠ none) /\ Ob (a1 ≠ none) /\ ∃ a14, Reads H6 (fldA a1 12) [.pointer a14] /\
 Triple prog 34 #[.pointer a14] H6 fun v15 H16 => ∃ a17 k18 k19 b20, v15 = .tuple #[sw a17 k18 k19, .bool b20] /\ (b20 = true -> Triple prog 69 #[.pointer a1, .bool false] H16 fun v21 H22 =>
 ∃ a23 k24 k25, v21 = sw a23 k24 k25 /\ Q (sw a23 k24 k25) H22) /\ (b20 = false -> Q (sw a17 k18 k19) H16))) /\ (b10 = !false -> Q (sw a7 k8 k9) H6))) /\ (a1.isNone = !false -> Q (sw none 0 0) H)) :
 Triple prog 33 ([.pointer a1]).toArray H Q := Triple.of_vc agTick.cx (by kernel_rfl) h
theorem agDone.vc (a1 : Option Addr) (H : PHeap) (Q : Value -> PHeap -> Prop)
 (h : (a1.isNone = false -> Ob (a1 ≠ none) /\ Ob (a1 ≠ none) /\ ∃ b2, Reads H (fldA a1 10) [.bool b2] /\ ((!b2) = true -> Q (Value.tuple #[Value.agg
 #[.bool false, .bool false, .bool false, iw 0, iw 0, iw 0, sw none 0 0, sw none 0 0, sw none 0 0], .bool false]) H) /\ ((!b2) = false -> Ob (a1 ≠ none) /\ Ob (a1 ≠ none) /\
 ∃ b3 b4 b5 n6 n7 n8 a9 k10 k11 a12 k13 k14 a15 k16 k17, Reads H (fldA a1 14) [.bool b3, .bool b4, .bool b5, iw n6, iw n7, iw n8, sw a9 k10 k11, sw a12 k13 k14, sw a15 k16 k17] /\ Q (Value.tuple #[Value.agg
 #[.bool b3, .bool b4, .bool b5, iw n6, iw n7, iw n8, sw a9 k10 k11, sw a12 k13 k14, sw a15 k16 k17], .bool true]) H)) /\ (a1.isNone = !false -> Q (Value.tuple #[Value.agg
 #[.bool false, .bool false, .bool false, iw 0, iw 0, iw 0, sw none 0 0, sw none 0 0, sw none 0 0], .bool false]) H)) : Triple prog 68 ([.pointer a1]).toArray H Q := Triple.of_vc agDone.cx (by kernel_rfl) h
end Go.Vc
