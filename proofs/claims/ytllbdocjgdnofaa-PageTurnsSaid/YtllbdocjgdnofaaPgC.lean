/- Pages: what turns tell in the end, in plain lists. -/
import Derived.Test.YtllbdocjgdnofaaPgB
namespace Go.Page
open Go.Vx Go.Txt Go.Lab

theorem less_le {a b c : ByteArray} (h1 : lessS a b = true) (h2 : lessS c b = false) : lessS a c = true := by
  by_cases e : b = c
  · rw [← e]; exact h1
  · rcases lessS_total e with h | h
    · exact lessS_trans h1 h
    · rw [h2] at h; cases h
theorem le_trans' {a b c : ByteArray} (h1 : lessS b a = false) (h2 : lessS c b = false) : lessS c a = false := by
  cases h : lessS c a with
  | false => rfl
  | true => have := less_le h h1; rw [h2] at this; cases this
theorem le_less {a b c : ByteArray} (h1 : lessS b a = false) (h2 : lessS b c = true) : lessS a c = true := by
  cases h : lessS a c with
  | true => rfl
  | false => have := le_trans' h h1; rw [h2] at this; cases this
theorem maxT_ge (a b : ByteArray) : lessS (maxT a b) a = false ∧ lessS (maxT a b) b = false := by
  unfold maxT
  split
  · rename_i h; exact ⟨lessS_asymm h, lessS_irrefl b⟩
  · rename_i h; exact ⟨lessS_irrefl a, by simpa using h⟩
theorem maxL_ge : ∀ {l : List ByteArray} {x : ByteArray}, x ∈ l → lessS (maxL l) x = false
  | [], _, h => by cases h
  | y :: ys, x, h => by
    have key : ∀ (ys : List ByteArray) (y x : ByteArray), (x = y ∨ x ∈ ys) → lessS (ys.foldl maxT y) x = false := by
      intro ys
      induction ys with
      | nil => intro y x h; rcases h with rfl | h
               · exact lessS_irrefl _
               · cases h
      | cons z zs ih =>
        intro y x h
        rw [List.foldl_cons]
        have hz := ih (maxT y z) (maxT y z) (.inl rfl)
        rcases h with rfl | h
        · exact le_trans' (maxT_ge x z).1 hz
        · rcases List.mem_cons.1 h with rfl | h
          · exact le_trans' (maxT_ge y x).2 hz
          · exact ih _ _ (.inr h)
    exact key ys y x (List.mem_cons.1 h)
theorem lim_fold : ∀ (L : List Msg) (st : Bool × ByteArray), let r := L.foldl (fun st m => if wholeB m then st else limStep st (maxL (names_ m).l)) st
    (r.1 = true → st.1 = true ∧ ∀ m ∈ L, wholeB m = true) ∧
    (r.1 = false → ((st.1 = false ∧ r.2 = st.2) ∨ ∃ m ∈ L, wholeB m = false ∧ r.2 = maxL (names_ m).l) ∧ (st.1 = false → lessS st.2 r.2 = false) ∧ ∀ m ∈ L, wholeB m = false → lessS (maxL (names_ m).l) r.2 = false)
  | [], st => ⟨fun h => ⟨h, by simp⟩, fun h => ⟨.inl ⟨h, rfl⟩, fun _ => lessS_irrefl _, by simp⟩⟩
  | m :: ms, st => by
    intro r
    have ih := lim_fold ms (if wholeB m then st else limStep st (maxL (names_ m).l))
    have er : r = ms.foldl (fun st m => if wholeB m then st else limStep st (maxL (names_ m).l)) (if wholeB m then st else limStep st (maxL (names_ m).l)) := rfl
    simp only at ih
    rw [← er] at ih
    clear er
    obtain ⟨i1, i2⟩ := ih
    cases hw : wholeB m with
    | true =>
      rw [hw, if_pos rfl] at i1 i2
      refine ⟨fun h => ⟨(i1 h).1, fun x hx => ?_⟩, fun h => ?_⟩
      · rcases List.mem_cons.1 hx with rfl | hx
        · exact hw
        · exact (i1 h).2 x hx
      · obtain ⟨j1, j2, j3⟩ := i2 h
        refine ⟨?_, j2, fun x hx hxw => ?_⟩
        · rcases j1 with j | ⟨x, hx, j⟩
          · exact .inl j
          · exact .inr ⟨x, List.mem_cons_of_mem _ hx, j⟩
        · rcases List.mem_cons.1 hx with rfl | hx
          · rw [hw] at hxw; cases hxw
          · exact j3 x hx hxw
    | false =>
      rw [hw, if_neg (by simp)] at i1 i2
      have hst : (limStep st (maxL (names_ m).l)).1 = false := by
        unfold limStep
        split
        · rfl
        · rename_i h; simp at h; exact h.1
      refine ⟨fun h => (by have := (i1 h).1; rw [hst] at this; cases this), fun h => ?_⟩
      obtain ⟨j1, j2, j3⟩ := i2 h
      have j2' := j2 hst
      have hm : lessS (maxL (names_ m).l) (limStep st (maxL (names_ m).l)).2 = false := by
        unfold limStep
        split
        · exact lessS_irrefl _
        · rename_i h; simp at h; exact h.2
      refine ⟨?_, fun h0 => ?_, fun x hx hxw => ?_⟩
      · rcases j1 with ⟨_, j⟩ | ⟨x, hx, j⟩
        · rw [j]
          unfold limStep
          split
          · exact .inr ⟨m, by simp, hw, rfl⟩
          · rename_i h; simp at h; exact .inl ⟨h.1, rfl⟩
        · exact .inr ⟨x, List.mem_cons_of_mem _ hx, j⟩
      · refine le_trans' j2' ?_
        unfold limStep
        split
        · rename_i hc
          simp [h0] at hc
          exact lessS_asymm hc
        · exact lessS_irrefl _
      · rcases List.mem_cons.1 hx with rfl | hx
        · exact le_trans' j2' hm
        · exact j3 x hx hxw
theorem mem_namesL (lim : Bool × ByteArray) : ∀ (L : List Msg) (names : List ByteArray) (x : ByteArray), x ∈ namesL lim names L ↔ x ∈ names ∨ ∃ m ∈ L, x ∈ (names_ m).l ∧ farB lim x = false
  | [], names, x => by simp [namesL]
  | m :: ms, names, x => by
    have ih := mem_namesL lim ms (mergeL (names ++ (names_ m).l.filter fun s => !farB lim s)) x
    have e : namesL lim names (m :: ms) = namesL lim (mergeL (names ++ (names_ m).l.filter fun s => !farB lim s)) ms := rfl
    rw [e, ih, (mergeL_rising _).2, List.mem_append, List.mem_filter]
    constructor
    · rintro ((h | ⟨h1, h2⟩) | ⟨y, hy, h⟩)
      · exact .inl h
      · exact .inr ⟨m, by simp, h1, by simpa using h2⟩
      · exact .inr ⟨y, List.mem_cons_of_mem _ hy, h⟩
    · rintro (h | ⟨y, hy, h1, h2⟩)
      · exact .inl (.inl h)
      · rcases List.mem_cons.1 hy with rfl | hy
        · exact .inl (.inr ⟨h1, by simpa using h2⟩)
        · exact .inr ⟨y, hy, h1, h2⟩
theorem rising_namesL (lim : Bool × ByteArray) : ∀ (L : List Msg) {names : List ByteArray}, Rising names → Rising (namesL lim names L)
  | [], names, h => h
  | m :: ms, names, _ => rising_namesL lim ms (mergeL_rising _).1
theorem filter_lt {α : Type} {p q : α → Bool} {b : α} : ∀ {l : List α}, (∀ x ∈ l, p x = true → q x = true) → b ∈ l → q b = true → p b = false → (l.filter p).length < (l.filter q).length
  | [], _, hb, _, _ => by cases hb
  | x :: xs, h, hb, hq, hp => by
    have le : ∀ {l : List α}, (∀ x ∈ l, p x = true → q x = true) → (l.filter p).length ≤ (l.filter q).length := by
      intro l
      induction l with
      | nil => intro _; simp
      | cons y ys ih =>
        intro h
        have := ih fun x hx => h x (List.mem_cons_of_mem _ hx)
        have hy := h y (by simp)
        cases e : p y with
        | true => rw [List.filter_cons_of_pos e, List.filter_cons_of_pos (hy e)]; simpa using this
        | false =>
          rw [List.filter_cons_of_neg (by simp [e])]
          cases e2 : q y with
          | true => rw [List.filter_cons_of_pos e2, List.length_cons]; omega
          | false => rw [List.filter_cons_of_neg (by simp [e2])]; exact this
    have ht : ∀ y ∈ xs, p y = true → q y = true := fun y hy => h y (List.mem_cons_of_mem _ hy)
    rcases List.mem_cons.1 hb with rfl | hb
    · rw [List.filter_cons_of_neg (by simp [hp]), List.filter_cons_of_pos hq, List.length_cons]
      have := le ht; omega
    · have ih := filter_lt ht hb hq hp
      have hx := h x (by simp)
      cases e : p x with
      | true => rw [List.filter_cons_of_pos e, List.filter_cons_of_pos (hx e)]; simpa using ih
      | false =>
        rw [List.filter_cons_of_neg (by simp [e])]
        cases e2 : q x with
        | true => rw [List.filter_cons_of_pos e2, List.length_cons]; omega
        | false => rw [List.filter_cons_of_neg (by simp [e2])]; exact ih
/-- The node's page. -/
structure PageOf (o : List ByteArray) (after : ByteArray) (n : Nat) (m : Msg) : Prop where
  kind : kind_ m = 20
  names : (names_ m).l = (o.filter fun x => lessS after x).take n
  what : what_ m = if (o.filter fun x => lessS after x).length ≤ n then 1 else 0
/-- What was told so far. -/
structure Told (all names : List ByteArray) (after : ByteArray) : Prop where
  rise : Rising names
  mem : ∀ x, x ∈ names ↔ x ∈ all ∧ lessS after x = false
theorem Told.eq {all names : List ByteArray} {after : ByteArray} (ha : Rising all) (h : Told all names after) : names = all.filter fun x => !lessS after x :=
  rising_ext h.rise (List.Pairwise.filter _ ha) fun x => by rw [h.mem, List.mem_filter]; simp
theorem turn_pure {all names : List ByteArray} {after : ByteArray} {owns : List (List ByteArray)} {L : List Msg} {n : Nat} (ha : Rising all) (hm : ∀ x, x ∈ all ↔ ∃ o ∈ owns, x ∈ o) (ho : ∀ o ∈ owns, Rising o) (hn : 1 ≤ n)
    (hT : Told all names after) (h1 : ∀ m ∈ L, ∃ o ∈ owns, PageOf o after n m) (h2 : ∀ o ∈ owns, ∃ m ∈ L, PageOf o after n m) :
    ((limL L).1 = true → namesL (limL L) names L = all) ∧
    ((limL L).1 = false → Told all (namesL (limL L) names L) (limL L).2 ∧ names.length < (namesL (limL L) names L).length) := by
  have hlim := lim_fold L (true, noS)
  have hr := rising_namesL (limL L) L hT.rise
  have hmem := mem_namesL (limL L) L names
  -- what a page that is not whole has
  have notw : ∀ {m : Msg} {o : List ByteArray}, PageOf o after n m → wholeB m = false → n < (o.filter fun x => lessS after x).length := fun {m o} hp hw => by
    by_cases hc : (o.filter fun x => lessS after x).length ≤ n
    · have := hp.what
      rw [if_pos hc] at this
      simp [wholeB, this] at hw
    · omega
  have isw : ∀ {m : Msg} {o : List ByteArray}, PageOf o after n m → wholeB m = true → (names_ m).l = o.filter fun x => lessS after x := fun {m o} hp hw => by
    rw [hp.names]
    by_cases hc : (o.filter fun x => lessS after x).length ≤ n
    · exact List.take_of_length_le hc
    · have := hp.what
      rw [if_neg hc] at this
      simp only [wholeB, this] at hw
      have he : (names_ m).l.isEmpty = true := by simpa using hw
      rw [hp.names] at he
      have : ((o.filter fun x => lessS after x).take n).length = 0 := by rw [List.isEmpty_iff.1 he]; rfl
      rw [List.length_take] at this
      omega
  have hpage : ∀ {m : Msg} {x : ByteArray}, m ∈ L → x ∈ (names_ m).l → x ∈ all ∧ lessS after x = true := fun {m x} hml hx => by
    obtain ⟨o, hoo, hp⟩ := h1 m hml
    rw [hp.names] at hx
    have := List.mem_filter.1 (List.mem_of_mem_take hx)
    exact ⟨(hm x).2 ⟨o, hoo, this.1⟩, this.2⟩
  refine ⟨fun he => ?_, fun he => ?_⟩
  · obtain ⟨_, hall⟩ := hlim.1 he
    refine rising_ext hr ha fun x => ?_
    rw [hmem]
    constructor
    · rintro (h | ⟨m, hml, hx, _⟩)
      · exact ((hT.mem x).1 h).1
      · exact (hpage hml hx).1
    · intro hx
      cases hc : lessS after x with
      | false => exact .inl ((hT.mem x).2 ⟨hx, hc⟩)
      | true =>
        obtain ⟨o, hoo, hxo⟩ := (hm x).1 hx
        obtain ⟨m, hml, hp⟩ := h2 o hoo
        refine .inr ⟨m, hml, ?_, by simp [farB, he]⟩
        rw [isw hp (hall m hml)]
        exact List.mem_filter.2 ⟨hxo, hc⟩
  · obtain ⟨j1, _, j3⟩ := hlim.2 he
    obtain ⟨m0, hm0, hw0, eb⟩ := j1.resolve_left fun h => by cases h.1
    have eb' : (limL L).2 = maxL (names_ m0).l := eb
    have j3' : ∀ m ∈ L, wholeB m = false → lessS (maxL (names_ m).l) (limL L).2 = false := j3
    have hne : (names_ m0).l ≠ [] := fun e => by simp [wholeB, e] at hw0
    have hbm : (limL L).2 ∈ (names_ m0).l := by rw [eb']; exact maxL_mem hne
    obtain ⟨hba, hbl⟩ := hpage hm0 hbm
    have hfar : ∀ x, farB (limL L) x = lessS (limL L).2 x := fun x => by simp [farB, he]
    have hto : Told all (namesL (limL L) names L) (limL L).2 := by
      refine ⟨hr, fun x => ?_⟩
      rw [hmem]
      constructor
      · rintro (h | ⟨m, hml, hx, hf⟩)
        · obtain ⟨g1, g2⟩ := (hT.mem x).1 h
          exact ⟨g1, le_trans' g2 (lessS_asymm hbl)⟩
        · exact ⟨(hpage hml hx).1, by rw [← hfar]; exact hf⟩
      · rintro ⟨hx, hxb⟩
        cases hc : lessS after x with
        | false => exact .inl ((hT.mem x).2 ⟨hx, hc⟩)
        | true =>
          obtain ⟨o, hoo, hxo⟩ := (hm x).1 hx
          obtain ⟨m, hml, hp⟩ := h2 o hoo
          refine .inr ⟨m, hml, ?_, by rw [hfar]; exact hxb⟩
          have hxf : x ∈ o.filter fun x => lessS after x := List.mem_filter.2 ⟨hxo, hc⟩
          cases hw : wholeB m with
          | true => rw [isw hp hw]; exact hxf
          | false =>
            rw [hp.names]
            rw [← List.take_append_drop n (o.filter fun x => lessS after x)] at hxf
            rcases List.mem_append.1 hxf with h | h
            · exact h
            · have hlen := notw hp hw
              have hne : (names_ m).l ≠ [] := fun e => by simp [wholeB, e] at hw
              have hmx := maxL_mem hne
              have hrf : Rising (o.filter fun x => lessS after x) := List.Pairwise.filter _ (ho o hoo)
              rw [← List.take_append_drop n (o.filter fun x => lessS after x)] at hrf
              have hlt := (List.pairwise_append.1 hrf).2.2 (maxL (names_ m).l) (by rw [← hp.names]; exact hmx) x h
              have := le_trans' hxb (j3' m hml hw)
              rw [hlt] at this; cases this
    refine ⟨hto, ?_⟩
    rw [hto.eq ha, hT.eq ha]
    refine filter_lt (b := (limL L).2) (fun x _ hx => ?_) hba (by simp [lessS_irrefl]) (by simp [hbl])
    have hx' : lessS after x = false := by simpa using hx
    have : lessS (limL L).2 x = false := le_trans' hx' (lessS_asymm hbl)
    simp [this]
end Go.Page
