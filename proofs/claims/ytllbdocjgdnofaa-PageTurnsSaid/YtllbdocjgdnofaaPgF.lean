/- Pages: the reference's contracts, and whether enough are sound. -/
import Derived.Test.YtllbdocjgdnofaaPgE
import Derived.Test.YtllbdocjgdnofaaVcPageT
namespace Go.Page
open Go.Vx Go.Vc Go.Proofs Go.Txt Go.Lab Go.Hp Go.Pln

theorem fldM {H : PHeap} {oa : Option Addr} {x : Msg} (h : Reads H oa (mE x)) {j : Nat} {v : Value} (hv : (mE x)[j]? = some v) : Reads H (fldA oa j) [v] := h.fld j fun i u hu => by
  match i, hu with
  | 0, hu => simp at hu; subst hu; exact hv
  | i + 1, hu => simp at hu
theorem fldNe {oa : Option Addr} (h : oa ≠ none) (j : Nat) : fldA oa j ≠ none := by
  cases oa with
  | none => exact absurd rfl h
  | some a => simp [fldA]
/-! ### Whether enough are sound -/
/-- How many are sound. -/
def cntL (L : List Msg) : Nat := (L.filter fun m => kind_ m == 20 && stateL m == 1).length
theorem cnt_filter (L : List Msg) : ((L.filter fun m => kind_ m == 20).filter fun m => stateL m == 1).length = cntL L := by
  unfold cntL; rw [List.filter_filter]; congr 1; exact List.filter_congr fun m _ => Bool.and_comm _ _
theorem who_ok {H : PHeap} {m : Msg} (h : OkP H m) : Triple Try.prog 35 #[vM m, .int .i64 0] H fun v H' => v = .int .i64 (stateL m) ∧ H' = H := by
  obtain ⟨y1, y2, y3, y4, y5, y6, y7, y8, y9, y10, ⟨ya, yb, yc, yl⟩, ⟨za, zb, zc, zl⟩, ⟨wa, wb, wc, wl⟩⟩ := m
  have hw : RdL H iE 1 ya yb yl := h.who
  have hwl := hw.len
  refine refWho.vc y1 y2 y3 y4 y5 y6 y7 y8 y9 y10 ya yb yc za zb zc wa wb wc 0 H _ ⟨fun e => ?_, fun e => ?_⟩
  · have e' : yb = 0 := by simp at e; omega
    have : yl = [] := List.eq_nil_of_length_eq_zero (by omega)
    subst this
    exact ⟨rfl, rfl⟩
  · have e' : 0 < yb := by simp at e; omega
    obtain ⟨x, hx, hxr⟩ := hw.ex (i := (0 : Int)) (by omega) (by omega)
    refine ⟨hw.ob (by omega) (by omega), x, hxr, ?_, rfl⟩
    have : yl.head? = some x := by rw [List.head?_eq_getElem?]; simpa using hx
    simp [stateL, who_, this]
theorem enough_ok {F H : PHeap} {k : Nat} {names : List ByteArray} {after : ByteArray} {sus : List Int} {p : Plan} {oa : Option Addr} {n c : Nat} {L : List Msg} (h : PgT F H k names after sus) (hl : RdL F mE 13 oa n L) (hok : ∀ m ∈ L, OkP F m) (hn : n ≤ 100) :
    Triple Try.prog 16 #[.pointer (at0 k), p.v, .slice oa n c] H fun v H' => v = .bool (p.ok && decide ((cntL L : Int) ≥ p.n - p.w + 1)) ∧ Sub H H' := by
  refine pEnough.vc (at0 k) p.n p.t p.l p.w p.s p.r oa n c H _ ⟨fun _ => (right_ok p).use ⟨_, rfl, fun e => ?_, fun e => ?_⟩, fun e => by simp [at0] at e⟩
  · have : p.ok = false := by simpa using e
    exact ⟨by rw [this]; rfl, Sub.refl _⟩
  have hp : p.ok = true := by simpa using e
  refine (listed_ok (hl.mono h.sub) (by omega)).mono ?_
  rintro _ H15 ⟨a, m, q, rfl, hL, hs, _⟩
  have hll : (L.filter fun m => kind_ m == 20).length = m := hL.len
  have hlen := List.length_filter_le (fun m => kind_ m == 20) L
  have hln := hl.len
  refine ⟨a, m, q, rfl, fun t H' => match t with | [.int _ z, .int _ i] => 0 ≤ i ∧ i ≤ m ∧ H' = H15 ∧ z = ((((L.filter fun m => kind_ m == 20).take i.toNat).filter fun m => stateL m == 1).length : Nat) | _ => False, fun t _ => match t with | [_, .int _ i] => (m - i).toNat | _ => 0, ⟨by omega, by omega, rfl, by simp⟩, ?_⟩
  rintro z i H23 ⟨i0, i1, hH, rfl⟩
  obtain rfl := hH.symm
  obtain ⟨i, rfl⟩ : ∃ j : Nat, i = j := ⟨i.toNat, by omega⟩
  rw [Int.toNat_natCast]
  have hcl : (((L.filter fun m => kind_ m == 20).take i).filter fun m => stateL m == 1).length ≤ i := by
    have := List.length_filter_le (fun m => stateL m == 1) ((L.filter fun m => kind_ m == 20).take i)
    rw [List.length_take] at this; omega
  refine ⟨fun hi => ?_, fun hi => ?_⟩
  · have hi' : i < m := by simpa using hi
    obtain ⟨x, hx, hxr⟩ := hL.ex (i := (i : Int)) (by omega) (by omega)
    rw [Int.toNat_natCast] at hx
    have okx := (hok x (List.mem_filter.1 (List.mem_of_getElem? hx)).1).mono (h.sub.trans hs)
    have st := state_ok okx
    have htk : (L.filter fun m => kind_ m == 20).take (i + 1) = (L.filter fun m => kind_ m == 20).take i ++ [x] := by rw [List.take_add_one, hx]; rfl
    obtain ⟨y1, y2, y3, y4, y5, y6, y7, y8, y9, y10, ⟨ya, yb, yc, yl⟩, ⟨za, zb, zc, zl⟩, ⟨wa, wb, wc, wl⟩⟩ := x
    refine ⟨hL.ob (by omega) (by omega), y1, y2, y3, y4, y5, y6, y7, y8, y9, y10, ya, yb, yc, za, zb, zc, wa, wb, wc, hxr, st.mono ?_⟩
    rintro _ H44 ⟨rfl, hH⟩
    obtain rfl := hH.symm
    rw [wrapS (by omega) (by omega), wrapS (by omega) (by omega)]
    refine ⟨_, rfl, ⟨by omega, by omega, rfl, ?_⟩, ⟨by simp only; omega⟩⟩
    rw [show ((i : Int) + 1).toNat = i + 1 by omega, htk, List.filter_append, List.length_append]
    cases hst : stateL (y1, y2, y3, y4, y5, y6, y7, y8, y9, y10, ⟨ya, yb, yc, yl⟩, ⟨za, zb, zc, zl⟩, ⟨wa, wb, wc, wl⟩) == 1 <;> simp [hst]
  · have hi' : ¬ i < m := by simpa using hi
    rw [List.take_of_length_le (by omega), cnt_filter]
    refine (quorum_ok H15 p).mono ?_
    rintro _ H47 ⟨rfl, hs2⟩
    refine ⟨_, rfl, ?_, hs.trans hs2⟩
    rw [hp, if_pos rfl]
    rfl
theorem refEnough_ok {H : PHeap} {p : Plan} {oa : Option Addr} {n c : Nat} {L : List Msg} (hl : RdL H mE 13 oa n L) (hok : ∀ m ∈ L, OkP H m) (hn : n ≤ 100) :
    Triple Try.prog 17 #[p.v, .slice oa n c] H fun v H' => v = .bool (p.ok && decide ((cntL L : Int) ≥ p.n - p.w + 1)) ∧ H' = H := by
  have hll := hl.len
  refine refEnough.vc p.n p.t p.l p.w p.s p.r oa n c H _ ⟨fun t H' => match t with | [.int _ z, .int _ i] => 0 ≤ i ∧ i ≤ n ∧ H' = H ∧ z = (cntL (L.take i.toNat) : Nat) | _ => False, fun t _ => match t with | [_, .int _ i] => (n - i).toNat | _ => 0, ⟨by omega, by omega, rfl, by simp [cntL]⟩, ?_⟩
  rintro z i H23 ⟨i0, i1, hH, rfl⟩
  obtain rfl := hH.symm
  obtain ⟨i, rfl⟩ : ∃ j : Nat, i = j := ⟨i.toNat, by omega⟩
  rw [Int.toNat_natCast]
  have hcl : cntL (L.take i) ≤ i := by
    have := List.length_filter_le (fun m => kind_ m == 20 && stateL m == 1) (L.take i)
    rw [List.length_take] at this; unfold cntL; omega
  refine ⟨fun hi => ?_, fun hi => ?_⟩
  · have hi' : i < n := by simpa using hi
    obtain ⟨x, hx, hxr⟩ := hl.ex (i := (i : Int)) (by omega) (by omega)
    rw [Int.toNat_natCast] at hx
    have okx := hok x (List.mem_of_getElem? hx)
    have st := who_ok okx
    have htk : L.take (i + 1) = L.take i ++ [x] := by rw [List.take_add_one, hx]; rfl
    have hcs : cntL (L.take (i + 1)) = cntL (L.take i) + if (kind_ x == 20 && stateL x == 1) = true then 1 else 0 := by
      unfold cntL
      rw [htk, List.filter_append, List.length_append]
      split <;> simp_all
    have hf0 := fldM (j := 0) hxr rfl
    obtain ⟨y1, y2, y3, y4, y5, y6, y7, y8, y9, y10, ⟨ya, yb, yc, yl⟩, ⟨za, zb, zc, zl⟩, ⟨wa, wb, wc, wl⟩⟩ := x
    rw [wrapS (by omega) (by omega), wrapS (by omega) (by omega)]
    refine ⟨hl.ob (by omega) (by omega), ⟨hl.elem_ne (by omega) (by omega)⟩, y1, hf0, fun e => ⟨hl.ob (by omega) (by omega), y1, y2, y3, y4, y5, y6, y7, y8, y9, y10, ya, yb, yc, za, zb, zc, wa, wb, wc, hxr, st.mono ?_⟩, fun e => ⟨⟨by omega, by omega, rfl, ?_⟩, ⟨by simp only; omega⟩⟩⟩
    · rintro _ H36 ⟨rfl, hH⟩
      obtain rfl := hH.symm
      refine ⟨_, rfl, ⟨by omega, by omega, rfl, ?_⟩, ⟨by simp only; omega⟩⟩
      rw [show ((i : Int) + 1).toNat = i + 1 by omega, hcs]
      simp only [kind_, e, Bool.true_and]
      cases hst : stateL (y1, y2, y3, y4, y5, y6, y7, y8, y9, y10, ⟨ya, yb, yc, yl⟩, ⟨za, zb, zc, zl⟩, ⟨wa, wb, wc, wl⟩) == 1 <;> simp [hst]
    · rw [show ((i : Int) + 1).toNat = i + 1 by omega, hcs]
      simp only [kind_, e]
      simp
  · have hi' : ¬ i < n := by simpa using hi
    rw [List.take_of_length_le (by omega)]
    refine (refRight_ok p).use ⟨_, rfl, ?_, rfl⟩
    congr 1
    cases hp : p.ok with
    | false => rfl
    | true =>
      have h := Plan.ok_iff.1 hp
      have := h.n1; have := h.n2; have := h.w1; have := h.w2
      rw [wrap64 (n := p.n - p.w) (by omega) (by omega), wrap64 (by omega) (by omega)]
      rfl
/-! ### The greatest text -/
theorem maxT_t {a b : ByteArray} (h : lessS a b = true) : maxT a b = b := by unfold maxT; rw [if_pos h]
theorem maxT_f {a b : ByteArray} (h : lessS a b = false) : maxT a b = a := by unfold maxT; rw [if_neg (by simp [h])]
theorem maxT_no (x : ByteArray) : maxT noS x = x := by
  unfold maxT
  split
  · rfl
  · rename_i h
    by_cases e : x = noS
    · exact e.symm
    · rcases lessS_total (a := noS) (b := x) (fun h => e h.symm) with h1 | h1
      · exact absurd h1 h
      · exfalso
        unfold lessS at h1
        rw [show noS.toList = [] by rw [toListB], bytesLess_nil] at h1
        cases h1
theorem max_no (l : List ByteArray) : l.foldl maxT noS = maxL l := by
  cases l with
  | nil => rfl
  | cons x xs => rw [List.foldl_cons, maxT_no]; rfl
theorem greatest_ok {H : PHeap} {oa : Option Addr} {n c : Nat} {l : List ByteArray} (hl : RdL H sE 1 oa n l) (hn : n ≤ 1000) (hS : ∀ x ∈ l, x.size ≤ 1000000) :
    Triple Try.prog 38 #[.slice oa n c] H fun v H' => v = .string (maxL l) ∧ H' = H := by
  have hll := hl.len
  have hmem : ∀ i, (l.take i).foldl maxT noS = noS ∨ (l.take i).foldl maxT noS ∈ l := fun i => by
    rw [max_no]
    by_cases e : l.take i = []
    · left; rw [e]; rfl
    · right; exact List.mem_of_mem_take (maxL_mem e)
  refine greatest.vc oa n c H _ ⟨fun t H' => match t with | [.string s, .int _ i] => 0 ≤ i ∧ i ≤ n ∧ H' = H ∧ s = (l.take i.toNat).foldl maxT noS | _ => False, fun t _ => match t with | [_, .int _ i] => (n - i).toNat | _ => 0, ⟨by omega, by omega, rfl, rfl⟩, ?_⟩
  rintro s i H1 ⟨i0, i1, hH, rfl⟩
  obtain rfl := hH.symm
  obtain ⟨i, rfl⟩ : ∃ j : Nat, i = j := ⟨i.toNat, by omega⟩
  rw [Int.toNat_natCast]
  refine ⟨fun hi => ?_, fun hi => ?_⟩
  · have hi' : i < n := by simpa using hi
    obtain ⟨x, hx, hxr⟩ := hl.ex (i := (i : Int)) (by omega) (by omega)
    rw [Int.toNat_natCast] at hx
    have hsz : ((l.take i).foldl maxT noS).size ≤ 1000000 := by
      rcases hmem i with e | e
      · rw [e]; simp [noS, ByteArray.size]
      · exact hS _ e
    have hnx : (l.take (i + 1)).foldl maxT noS = maxT ((l.take i).foldl maxT noS) x := by rw [List.take_add_one, hx]; simp
    refine ⟨hl.ob (by omega) (by omega), x, hxr, (refLessS_ok hsz).use ⟨_, rfl, fun e => ⟨hl.ob (by omega) (by omega), x, hxr, ?_⟩, fun e => ?_⟩⟩
    · rw [wrapS (by omega) (by omega)]
      refine ⟨⟨by omega, by omega, rfl, ?_⟩, ⟨by simp only; omega⟩⟩
      rw [show ((i : Int) + 1).toNat = i + 1 by omega, hnx, maxT_t e]
    · rw [wrapS (by omega) (by omega)]
      refine ⟨⟨by omega, by omega, rfl, ?_⟩, ⟨by simp only; omega⟩⟩
      rw [show ((i : Int) + 1).toNat = i + 1 by omega, hnx, maxT_f e]
  · have hi' : ¬ i < n := by simpa using hi
    rw [List.take_of_length_le (by omega), max_no]
    exact ⟨rfl, rfl⟩
end Go.Page
