/- The document's model: what is found: the contract. -/
import Derived.Test.YtlhnepjidbofnaaGreatDoorMdlR1
namespace Go.Mdl
open Go.Vx Go.Vc Go.Proofs Go.Txt

/-- What was found, A, of the ends ds; F is read. -/
structure FoundK (ds : List Fl) (F H : PHeap) (f : Nat) (A : Fl → Prop) : Prop where
  sub : Sub F H
  o : F f = none
  row : ∃ any ab oa n c bl, Bx H f 43 [.bool any, .bool ab, .slice oa n c] ∧ Off F oa ∧ OwnL H 9 strE 1 oa n c bl ∧ bl.Nodup ∧ (any = true ↔ ∃ z, A z) ∧ (ab = true ↔ ∃ d, A (false, d)) ∧ (∀ d, d ∈ bl ↔ A (true, d)) ∧ ∀ z, A z → z ∈ ds
theorem FoundK.ext {ds : List Fl} {F H : PHeap} {f : Nat} {A B : Fl → Prop} (h : FoundK ds F H f A) (e : ∀ z, A z ↔ B z) : FoundK ds F H f B := by
  rwa [show A = B from funext fun z => propext (e z)] at h
theorem FoundK.weaken {ds : List Fl} {F F' H : PHeap} {f : Nat} {A : Fl → Prop} (h : FoundK ds F' H f A) (hs : Sub F F') : FoundK ds F H f A := by
  obtain ⟨any, ab, oa, n, c, bl, h1, h2, h3⟩ := h.row
  exact ⟨hs.trans h.sub, hs.none h.o, any, ab, oa, n, c, bl, h1, fun a ha => hs.none (h2 a ha), h3⟩
theorem FoundK.mono {ds : List Fl} {F H H' : PHeap} {f : Nat} {A : Fl → Prop} (h : FoundK ds F H f A) (hs : Sub H H') : FoundK ds F H' f A := by
  obtain ⟨any, ab, oa, n, c, bl, h1, h2, h3, h4⟩ := h.row
  exact ⟨h.sub.trans hs, h.o, any, ab, oa, n, c, bl, h1.sub hs, h2, h3.mono fun a o _ ho => hs.le _ _ ho, h4⟩
/-- A new list is put to what is read. -/
theorem FoundK.grow {ds : List Fl} {F H H' : PHeap} {f : Nat} {A : Fl → Prop} (h : FoundK ds F H f A) (hs : Sub H H') {e : TypeId} {α : Type} {E : α → List Value} {sz : Nat} (hE : ∀ x, (E x).length = sz) (hsz : 0 < sz) {oa : Option Addr} {n c : Nat} {l : List α} (how : OwnL H' e E sz oa n c l) (ho : Off H oa) :
    ∃ F', Sub F F' ∧ FoundK ds F' H' f A ∧ RdL F' E sz oa n l := by
  rcases how.row with ⟨e1, _⟩ | ⟨g, cur, e1, hg, _⟩
  · subst e1
    refine ⟨F, Sub.refl _, h.mono hs, ?_⟩
    have hr := how.rd hsz hE
    have := hr.pos rfl
    subst this
    have hl := hr.len
    have : l = [] := List.eq_nil_of_length_eq_zero hl
    subst this
    exact .nil _ _ _
  · subst e1
    have hn : H g = none := ho _ rfl
    have hFg := h.sub.none hn
    obtain ⟨any, ab, ob, n2, c2, bl, h1, h2, h3, h4⟩ := h.row
    have hsub : Sub (F.upd g (.cells cur e (0, 0))) H' := ⟨fun q o hq => by
      by_cases eq : q = g
      · subst eq; rw [upd_eq] at hq; cases hq; exact hg
      · rw [Go.Vx.upd_ne _ _ eq] at hq; exact hs.le _ _ (h.sub.le _ _ hq)⟩
    refine ⟨F.upd g (.cells cur e (0, 0)), Sub.upd _ hFg, ⟨hsub, ?_, any, ab, ob, n2, c2, bl, h1.sub hs, fun a ha => ?_, h3.mono fun a o _ ho => hs.le _ _ ho, h4⟩, ?_⟩
    · have : f ≠ g := fun eq => by unfold Bx at h1; rw [eq, hn] at h1; cases h1
      rw [Go.Vx.upd_ne _ _ this]; exact h.o
    · have : a.block ≠ g := fun eq => by
        obtain ⟨c3, r3, q3⟩ := own_ty h3 a ha
        rw [eq, hn] at q3; cases q3
      rw [Go.Vx.upd_ne _ _ this]; exact h2 a ha
    · have how' : OwnL (F.upd g (.cells cur e (0, 0))) e E sz (some ⟨g, 0, none⟩) n c l := how.mono fun a o ha ho => by cases ha; rw [hg] at ho; cases ho; exact upd_eq ..
      exact how'.rd hsz hE
/-- One more end. -/
theorem found_ok {ds : List Fl} {F H : PHeap} {f : Nat} {A : Fl → Prop} (h : FoundK ds F H f A) (hds : ds.length ≤ 1000) {p : Bool} {d : ByteArray} (hz : (p, d) ∈ ds) :
    Triple Tryz.prog 38 #[.pointer (at0 f), .bool p, .string d] H fun v H' => v = .tuple #[] ∧ FoundK ds F H' f fun z => A z ∨ z = (p, d) := by
  obtain ⟨any, ab, oa, n, c, bl, h1, h2, h3, h4, h5, h6, h7, h8⟩ := h.row
  have hob : Ob (at0 f ≠ none) := ⟨by simp [at0]⟩
  have hin : ∀ z, A z ∨ z = (p, d) → z ∈ ds := fun z hz' => hz'.elim (h8 z) fun e => e ▸ hz
  have hof : ∀ a, oa = some a → a.block ≠ f := fun a ha e => by
    obtain ⟨c2, r2, q2⟩ := own_ty h3 a ha
    unfold Bx at h1; rw [e, h1] at q2; injection q2 with e; injection e with _ e _; revert e; decide
  have hrd := h3.rd (E := strE) (sz := 1) (by omega) (fun _ => rfl)
  have hlen := hrd.len
  have hbn : n ≤ 1000 := by
    have := nodup_len (l := bl.map fun d => ((true, d) : Fl)) (m := ds) ?_ ?_
    · rw [List.length_map] at this; omega
    · exact List.pairwise_map.2 (h4.imp fun hne e => hne (by injection e))
    · intro z hz'
      obtain ⟨d', hd', rfl⟩ := List.mem_map.1 hz'
      exact h8 _ ((h7 d').1 hd')
  have own2 : ∀ {l : List Value}, OwnL (H.upd f (.cells l.toArray 43 (0, 0))) 9 strE 1 oa n c bl := h3.mono fun a o ha ho => by rw [Go.Vx.upd_ne _ _ (hof a ha)]; exact ho
  have hb2 : ∀ {l : List Value}, Bx (H.upd f (.cells l.toArray 43 (0, 0))) f 43 l := upd_eq ..
  have hs2 : ∀ {o : Obj}, Sub F (H.upd f o) := h.sub.wr h.o
  have anyT : (true = true ↔ ∃ z, A z ∨ z = (p, d)) := ⟨fun _ => ⟨_, .inr rfl⟩, fun _ => rfl⟩
  refine rFound.vc (at0 f) p d H _ ⟨hob, hob, _, h1.put (i := 0) (by simp), fun e1 => ⟨hob, hob, _, hb2.put (i := 1) (by simp), rfl, ?_⟩, fun e1 => ⟨hob, hob, oa, n, c, hb2.fld (i := 2) rfl, (has_ok (own2.rd (E := strE) (sz := 1) (by omega) fun _ => rfl) (by omega) d).mono ?_⟩⟩
  · have hp : p = false := by simpa using e1
    refine ⟨(hs2 : Sub F (H.upd f _)).wr h.o, h.o, true, true, oa, n, c, bl, upd_eq .., h2, own2.mono fun a o ha ho => by rw [Go.Vx.upd_ne _ _ (hof a ha)]; exact ho, h4, anyT, ⟨fun _ => ⟨d, .inr (by rw [hp])⟩, fun _ => rfl⟩, fun t => ?_, hin⟩
    rw [h7, hp]; simp
  · have hp : p = true := by simpa using e1
    have abQ : (ab = true ↔ ∃ t, A (false, t) ∨ (false, t) = (p, d)) := by rw [h6, hp]; simp
    rintro _ _ ⟨b, rfl, hb, rfl⟩
    refine ⟨b, rfl, fun e2 => ⟨hob, hob, oa, n, c, hb2.fld (i := 2) rfl, fun k hk => ?_⟩, fun e2 => ⟨rfl, hs2, h.o, true, ab, oa, n, c, bl, hb2, h2, own2, h4, anyT, abQ, fun t => ?_, hin⟩⟩
    · have hnd : d ∉ bl := fun hd => by rw [hb.2 hd] at e2; cases e2
      refine append_one tStr (E := strE) (x := d) hk (fun _ => rfl) own2 rfl (fun u hu => by simp [strE] at hu; subst hu; rfl) (by simp [maxLen]; omega) (by omega) ?_
      intro a' c' H4 how4 hf4 hfr4 _
      have hb4 := hf4.bx (hb2 (l := [Value.bool true, .bool ab, .slice oa n c])) hof
      have hne := hfr4.ne (hb2 (l := [Value.bool true, .bool ab, .slice oa n c])) hof
      refine ⟨a', n + 1, c', rfl, hob, hob, _, hb4.put (i := 2) (by simp), rfl, (hf4.sub hs2 h2).wr h.o, h.o, true, ab, a', n + 1, c', bl ++ [d], upd_eq .., hfr4.off hs2 h2, how4.mono fun a o ha ho => by rw [Go.Vx.upd_ne _ _ (hne a ha)]; exact ho, ?_, anyT, abQ, fun t => ?_, hin⟩
      · exact List.nodup_append.2 ⟨h4, by simp, fun a ha b hb e => hnd (by simp at hb; rw [← hb, ← e]; exact ha)⟩
      · rw [List.mem_append, h7, hp]; simp
    · have hd : d ∈ bl := hb.1 (by simpa using e2)
      rw [h7] at hd
      rw [h7, hp]
      constructor
      · exact .inl
      · rintro (h | h)
        · exact h
        · injection h with _ h; rw [h]; exact hd
end Go.Mdl
