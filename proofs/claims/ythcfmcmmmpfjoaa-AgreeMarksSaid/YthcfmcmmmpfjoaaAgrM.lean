/- The law AgreeMarks: the plain words, and the walk. -/
import Derived.Test.YthcfmcmmmpfjoaaAgrL
namespace Go.Agr
open Go.Vx Go.Vc Go.Proofs Go.Pln Go.Stl
open Go.Rnd (takesG insG froms againG RdS Both OkM AscG)

/-! ### The value that most have -/
theorem sub_len : ∀ (a b : List Int), a.Nodup → (∀ x ∈ a, x ∈ b) → a.length ≤ b.length
  | [], b, _, _ => by simp
  | x :: a, b, hn, hs => by
    rw [List.nodup_cons] at hn
    have hx := hs x (by simp)
    have := sub_len a (b.erase x) hn.2 fun y hy => (List.mem_erase_of_ne (fun e => hn.1 (by rw [← e]; exact hy))).2 (hs y (by simp [hy]))
    rw [List.length_erase_of_mem hx] at this
    have : 0 < b.length := List.length_pos_of_mem hx
    rw [List.length_cons]; omega
def V7 (v : Val) : Prop := v.pr = true ∧ v.at_ = 4 ∧ v.ep = 6
def is7 (m : Msg) : Bool := mark_ m == 7
/-- What is said, and by whom. -/
structure MS (p : Plan) (L : List Msg) : Prop where
  len : (L.length : Int) = p.n
  all : ∀ x ∈ L, kind_ x = 14 ∧ what_ x = 2 ∧ ((mark_ x = 7 ∧ att_ x = 4 ∧ ep_ x = 6) ∨ mark_ x = 2)
  many : p.w ≤ (L.filter is7).length
theorem best_7 {L : List Msg} (hL : ∀ x ∈ L, kind_ x = 14 ∧ what_ x = 2 ∧ ((mark_ x = 7 ∧ att_ x = 4 ∧ ep_ x = 6) ∨ mark_ x = 2)) : ∀ (G : List Msg) (s : Int × Val), (∀ x ∈ G, x ∈ L) → s.1 ≤ 2 ∨ (s.1 = 7 ∧ V7 s.2) →
    ((G.foldl bestStep s).1 ≤ 2 ∨ ((G.foldl bestStep s).1 = 7 ∧ V7 (G.foldl bestStep s).2)) ∧ ((s.1 = 7 ∨ ∃ x ∈ G, mark_ x = 7) → (G.foldl bestStep s).1 = 7)
  | [], s, _, hs => ⟨hs, fun h => by
    rcases h with h | ⟨x, hx, _⟩
    · exact h
    · cases hx⟩
  | x :: G, s, hG, hs => by
    obtain ⟨k1, k2, k3⟩ := hL x (hG x (by simp))
    have hm : markedM x = true := by simp [markedM, k1, k2]
    have hv : valueM x = ofV x := by simp [valueM, k1, k2]
    have hst : bestStep s x = if decide (mark_ x > s.1) then (mark_ x, ofV x) else s := by unfold bestStep; rw [hm, hv, Bool.true_and]
    have h1 : (bestStep s x).1 ≤ 2 ∨ ((bestStep s x).1 = 7 ∧ V7 (bestStep s x).2) := by
      rw [hst]
      split
      · rcases k3 with ⟨h7, h4, h6⟩ | h2
        · exact .inr ⟨h7, rfl, h4, h6⟩
        · exact .inl (by show mark_ x ≤ 2; omega)
      · exact hs
    have h2 : (s.1 = 7 ∨ mark_ x = 7) → (bestStep s x).1 = 7 := fun h => by
      rw [hst]
      rcases h with h | h
      · rw [h]
        have : ¬ mark_ x > 7 := by rcases k3 with ⟨h7, _⟩ | h2 <;> omega
        rw [decide_eq_false this]
        simpa using h
      · rw [h]
        split
        · rfl
        · rename_i hc
          have hc' : ¬ (7 : Int) > s.1 := by simpa using hc
          rcases hs with hs | ⟨hs, _⟩ <;> omega
    have ih := best_7 hL G (bestStep s x) (fun y hy => hG y (by simp [hy])) h1
    rw [List.foldl_cons]
    refine ⟨ih.1, fun h => ih.2 ?_⟩
    rcases h with h | ⟨y, hy, h⟩
    · exact .inl (h2 (.inl h))
    · rcases List.mem_cons.1 hy with rfl | hy
      · exact .inl (h2 (.inr h))
      · exact .inr ⟨y, hy, h⟩
theorem filter_two {α : Type} (p : α → Bool) : ∀ l : List α, (l.filter p).length + (l.filter fun x => !p x).length = l.length
  | [] => rfl
  | x :: l => by
    have := filter_two p l
    cases h : p x <;> simp [h] <;> omega
theorem best_most {p : Plan} {L G : List Msg} (h : MS p L) (ha : AscG G) (hG : ∀ x ∈ G, x ∈ L) (hc : (cntM soundM G : Int) ≥ p.n - p.w + 1) : V7 (best G).2 := by
  have hex : ∃ x ∈ G, mark_ x = 7 := by
    apply Classical.byContradiction
    intro hno
    have hnd : (froms G).Nodup := ha.imp fun h => by omega
    have hle : G.length ≤ (L.filter fun x => !is7 x).length := by
     have hle := sub_len (froms G) (froms (L.filter fun x => !is7 x)) hnd fun i hi => by
      obtain ⟨x, hx, rfl⟩ := List.mem_map.1 hi
      refine List.mem_map.2 ⟨x, List.mem_filter.2 ⟨hG x hx, ?_⟩, rfl⟩
      have : mark_ x ≠ 7 := fun e => hno ⟨x, hx, e⟩
      simp [is7, this]
     rw [List.length_map, List.length_map] at hle
     exact hle
    have hc' : (p.n : Int) - p.w + 1 ≤ (cntM soundM G : Int) := hc
    have h1 := cnt_le soundM G
    have h2 := filter_two is7 L
    have h3 := h.len
    have h4 := h.many
    omega
  have hb := best_7 h.all G (0, val0) hG (.inl (by decide))
  have h7 := hb.2 (.inr hex)
  rcases hb.1 with h1 | h1
  · rw [h7] at h1; exact absurd h1 (by decide)
  · exact h1.2
/-! ### What is so of the agreement all the time -/
structure MInv (p : Plan) (L : List Msg) (s : St) : Prop where
  pe : s.p = p
  pok : p.ok = true
  asc : AscG s.G
  a : s.fixed = false → ∀ m ∈ s.G, m ∈ L
  b : s.fixed = true → V7 s.value
  c : s.over = true → s.ok = true → V7 s.value
theorem minv_judge {p : Plan} {L : List Msg} {s : St} (hL : MS p L) (h : MInv p L s) : MInv p L s.judge.1 := by
  unfold St.judge
  cases hf : s.fixed with
  | true =>
    rw [if_pos rfl]
    unfold St.judge1
    split
    · exact ⟨h.pe, h.pok, h.asc, h.a, h.b, fun _ _ => h.b hf⟩
    · exact ⟨h.pe, h.pok, h.asc, h.a, h.b, fun h1 h2 => h.c h1 h2⟩
  | false =>
    rw [if_neg (by decide)]
    unfold St.judge0
    cases he : (verd s.p s.G).enough with
    | true =>
      have hv : V7 (verd s.p s.G).value := by
        have hok : s.p.ok = true := by rw [h.pe]; exact h.pok
        rw [verd_ok hok] at he ⊢
        refine best_most hL h.asc (h.a hf) ?_
        rw [← h.pe]
        exact of_decide_eq_true he
      rw [if_pos rfl]
      split
      · exact ⟨h.pe, h.pok, h.asc, h.a, fun e => (by have e' : s.fixed = true := e; rw [hf] at e'; cases e'), fun _ _ => hv⟩
      · exact ⟨h.pe, h.pok, List.Pairwise.nil, fun e => (by cases e), fun _ => hv, fun _ _ => hv⟩
    | false =>
      rw [if_neg (by decide)]
      split
      · exact ⟨h.pe, h.pok, h.asc, h.a, h.b, fun _ e => (by cases e)⟩
      · exact h
theorem minv_take {p : Plan} {L : List Msg} {s : St} {m : Msg} (hL : MS p L) (h : MInv p L s) (hm : m ∈ L ∨ kind_ m = 17) : MInv p L (s.take m).1 := by
  unfold St.take
  split
  · exact h
  · split
    · rename_i ht
      have ht' := Bool.and_eq_true _ _ ▸ ht
      have hg : MInv p L (s.got m) := ⟨h.pe, h.pok, Rnd.ins_asc h.asc (takes_new ht'.2).2, (fun e y hy => by
        rcases Rnd.mem_ins.1 hy with hy | hy
        · exact h.a e y hy
        · rw [hy]
          rcases hm with hm | hm
          · exact hm
          · have := ht'.1
            unfold St.takes at this
            have hfx : s.fixed = false := e
            rw [hfx] at this
            simp [hm] at this), h.b, h.c⟩
      split
      · exact minv_judge hL hg
      · exact hg
    · exact h
theorem minv_tick {p : Plan} {L : List Msg} {s : St} (hL : MS p L) (h : MInv p L s) : MInv p L s.tick.1 := by
  unfold St.tick
  split
  · exact h
  · have hj := minv_judge hL h
    split
    · exact hj
    · unfold St.late
      split
      · exact ⟨hj.pe, hj.pok, hj.asc, hj.a, hj.b, fun _ e => (by cases e)⟩
      · exact ⟨hj.pe, hj.pok, hj.asc, hj.a, hj.b, hj.c⟩
/-! ### What is said -/
def mkM (i : Nat) (m : Msg) : Msg := (14, (i : Int) + 1, 0, 9, ⟨#[97]⟩, if mark_ m > 3 then 4 else 2, if mark_ m > 3 then 6 else 2, if mark_ m > 3 then 7 else 2, 0, 2, who_ m, ⟨none, 0, 0, []⟩, ⟨none, 0, 0, []⟩)
def hi3 (m : Msg) : Bool := decide (mark_ m > 3)
theorem mk_is7 (i : Nat) (m : Msg) : is7 (mkM i m) = hi3 m := by
  simp only [is7, mkM, hi3, mark_]
  split
  · rename_i h; simp [h]
  · rename_i h; simp [h]
theorem filter_map_len {α : Type} (p : α → Bool) (l : List α) : (l.filter p).length = ((l.map p).filter id).length := by
  rw [List.filter_map, List.length_map]; rfl
theorem mk_ms {p : Plan} {l L : List Msg} (hl : (l.length : Int) = p.n) (hL : L.length = l.length) (hi : ∀ j x, l[j]? = some x → L[j]? = some (mkM j x)) (hh : p.w ≤ (l.filter hi3).length) : MS p L := by
  have hmem : ∀ x ∈ L, ∃ j y, l[j]? = some y ∧ x = mkM j y := fun x hx => by
    obtain ⟨j, hj, rfl⟩ := List.getElem_of_mem hx
    have hjl : j < l.length := by omega
    have := hi j l[j] (List.getElem?_eq_getElem hjl)
    rw [List.getElem?_eq_getElem hj] at this
    exact ⟨j, l[j], List.getElem?_eq_getElem hjl, Option.some.inj this⟩
  refine ⟨by rw [hL]; exact hl, fun x hx => ?_, ?_⟩
  · obtain ⟨j, y, _, rfl⟩ := hmem x hx
    refine ⟨rfl, rfl, ?_⟩
    by_cases h : mark_ y > 3
    · exact .inl ⟨if_pos h, if_pos h, if_pos h⟩
    · exact .inr (if_neg h)
  · have : L.map is7 = l.map hi3 := by
      apply List.ext_getElem?
      intro j
      rw [List.getElem?_map, List.getElem?_map]
      cases hj : l[j]? with
      | none => rw [List.getElem?_eq_none (by have := List.getElem?_eq_none_iff.1 hj; omega)]; rfl
      | some x => rw [hi j x hj]; simp [mk_is7]
    rw [filter_map_len, this, ← filter_map_len]; exact hh
end Go.Agr
