/- A copy of the map of names: the contract. -/
import Derived.Test.YtlhnepjidbofnaaDoorMdlI
namespace Go.Mdl
open Go.Vx Go.Vc Go.Proofs

theorem Mp.len {κ ν : Type} {H : PHeap} {b : Nat} {kE : κ → Value} {vE : ν → Value} {l : List (κ × ν)} (h : Mp H b kE vE l) {es : Array MapEntry} {ck : Nat} (he : H b = some (.map es ck)) : es.size = l.length := by
  obtain ⟨es', ck', h1, h2, _⟩ := h.out
  rw [he] at h1
  cases h1
  have := congrArg List.length h2
  simpa using this
def sizeAt (H : PHeap) (b : Nat) : Nat := match H b with
  | some (.map es _) => es.size
  | _ => 0
theorem sizeAt_mp {κ ν : Type} {H : PHeap} {b : Nat} {kE : κ → Value} {vE : ν → Value} {l : List (κ × ν)} (h : Mp H b kE vE l) : sizeAt H b = l.length := by
  obtain ⟨es, ck, h1, _⟩ := h.out
  unfold sizeAt
  rw [h1]
  exact Mp.len h h1
theorem copy_ok {F H : PHeap} {m : Nat} {sl : SlV} {ops : List OpS} {R : Poss} (h : MapK F H m sl ops R) :
    Triple Tryd.prog 78 #[.pointer (at0 m)] H fun v H' => ∃ mb', v = .map (some mb') ∧ H mb' = none ∧ Sub H H' ∧ NamesR F H' (some mb') R := by
  obtain ⟨oa, n, c, vs, mr, hsl, h1, h2, h3, h4, h5⟩ := h.row
  obtain ⟨ml, f, g1, g2, g3, g4, g5, g6⟩ := h5.out
  have hne := MapK.ob (m := m)
  refine mCopy.vc (at0 m) H _ (makeMap_mp fun mb' hmb' => ⟨some mb', rfl, hne, hne, mr, ?_, ?_⟩)
  · exact (h1.sub (Sub.upd _ hmb')).fld (i := 1) rfl
  have hs0 := Sub.upd (H := H) (.map #[] 0) hmb'
  -- in the end
  have fin : ∀ {H' : PHeap} {ml2 : List (ByteArray × SlV)}, Sub H H' → Mp H' mb' Value.string slV ml2 → (∀ s, mlook ml2 s = mlook ml s) → ∃ b, Value.map (some mb') = .map (some b) ∧ H b = none ∧ Sub H H' ∧ NamesR F H' (some b) R := fun {_ ml2} hs hm hl =>
    ⟨mb', rfl, hmb', hs, ml2, f, fun b e => by cases e; exact ⟨h.sub.none hmb', hm⟩, (fun e => by cases e), g3, g4, fun s hn => g5 s (by rw [← hl]; exact hn), fun s v hv => (g6 s v (by rw [← hl]; exact hv)).keep (TyK.sub hs)⟩
  cases mr with
  | none =>
    obtain rfl := g2 rfl
    refine map_range_nil mapN fun r hr => ⟨at0 r, rfl, fun t H' => t = [] ∧ H' = (H.upd mb' (.map #[] 0)).upd r (.mapIter none 0 #[] 0), fun _ _ => 0, ⟨rfl, rfl⟩, ?_⟩
    rintro H1 ⟨_, rfl⟩
    have nr : mb' ≠ r := fun e => by rw [← e, upd_eq] at hr; cases hr
    refine map_next_nil (upd_eq ..) (.inl ⟨rfl, (fun e => by cases e), fun _ => fin (hs0.trans (Sub.upd _ hr)) (ml2 := []) ((Mp.new H mb' _ _).mono fun o ho => by rw [upd_ne _ _ nr]; exact ho) fun s => rfl⟩)
  | some mb =>
    obtain ⟨hF, hmp⟩ := g1 mb rfl
    have nmm : mb ≠ mb' := fun e => by
      obtain ⟨es, ck, q, _⟩ := hmp.out
      rw [e, hmb'] at q; cases q
    have hnd := hmp.nodup
    refine map_range mapN (hmp.mono fun o ho => hs0.le _ _ ho) fun r o hr hit => ⟨at0 r, rfl, fun t H' => t = [] ∧ Sub H H' ∧ H r = none ∧ r ≠ mb' ∧ ∃ js ml2, It H' r mb Value.string slV ml js ∧ Mp H' mb' Value.string slV ml2 ∧ ml2.length = js.length ∧ ∀ s v, mlook ml2 s = some v ↔ ∃ j ∈ js, ml[j]? = some (s, v),
      fun _ H' => ml.length - sizeAt H' mb', ?_, ?_⟩
    · have nr : r ≠ mb' := fun e => by rw [e, upd_eq] at hr; cases hr
      exact ⟨rfl, hs0.trans (Sub.upd _ hr), hs0.none hr, nr, [], [], hit, (Mp.new H mb' _ _).mono fun o' ho => by rw [upd_ne _ _ (Ne.symm nr)]; exact ho, rfl, fun s v => by simp [mlook]⟩
    rintro H1 ⟨_, hs1, hr0, nr, js, ml2, hit1, hm1, hlen, hlk⟩
    refine map_next hit1 (fun hall => .inl ⟨rfl, (fun e => by cases e), fun _ => fin hs1 hm1 fun s => ?_⟩) (fun j x o2 hx hj hit2 => .inr ⟨_, _, rfl, fun _ => ?_, fun e => by cases e⟩)
    · have key : ∀ v, mlook ml2 s = some v ↔ mlook ml s = some v := fun v => by
        rw [hlk, mlook_iff hnd]
        constructor
        · rintro ⟨j, _, hj⟩; exact List.mem_of_getElem? hj
        · intro hv
          obtain ⟨j, hj⟩ := List.mem_iff_getElem?.1 hv
          exact ⟨j, hall j (List.getElem?_eq_some_iff.1 hj).1, hj⟩
      cases ha : mlook ml2 s with
      | some v => exact ((key v).1 ha).symm
      | none =>
        cases hb : mlook ml s with
        | none => rfl
        | some v => rw [(key v).2 hb] at ha; cases ha
    · have hs2 : Sub H (H1.upd r o2) := Bx.sub_of hs1 hr0
      refine map_entry_at hit2 hx ⟨x.1, x.2.a, x.2.n, x.2.c, rfl, ?_⟩
      have hm2 : Mp (H1.upd r o2) mb' Value.string slV ml2 := hm1.mono fun o' ho => by rw [upd_ne _ _ (Ne.symm nr)]; exact ho
      refine map_put mapN hm2 (k := x.1) (v := x.2) fun o3 hm3 => ?_
      have hnone : mlook ml2 x.1 = none := by
        cases hq : mlook ml2 x.1 with
        | none => rfl
        | some v =>
          obtain ⟨j', hj', hxj⟩ := (hlk x.1 v).1 hq
          have e1 : (ml.map (·.1))[j']? = some x.1 := by rw [List.getElem?_map, hxj]; rfl
          have e2 : (ml.map (·.1))[j]? = some x.1 := by rw [List.getElem?_map, hx]; rfl
          exact (hj (nodup_at hnd e1 e2 ▸ hj')).elim
      have hl3 : (mlay ml2 x.1 x.2).length = ml2.length + 1 := by rw [mlay_none hnone]; simp
      have hit3 : It ((H1.upd r o2).upd mb' o3) r mb Value.string slV ml (js ++ [j]) := hit2.mono (fun o' ho => by rw [upd_ne _ _ nr]; exact ho) (fun o' ho => by rw [upd_ne _ _ nmm]; exact ho)
      refine ⟨⟨rfl, Bx.sub_of hs2 hmb', hr0, nr, js ++ [j], _, hit3, hm3, by rw [hl3, hlen]; simp, fun s v => ?_⟩, ⟨?_⟩⟩
      · rw [mlook_lay]
        by_cases e : s = x.1
        · subst e
          rw [if_pos rfl]
          constructor
          · intro hv; cases hv; exact ⟨j, by simp, hx⟩
          · rintro ⟨j', hj', hxj⟩
            have e1 : (ml.map (·.1))[j']? = some x.1 := by rw [List.getElem?_map, hxj]; rfl
            have e2 : (ml.map (·.1))[j]? = some x.1 := by rw [List.getElem?_map, hx]; rfl
            have := nodup_at hnd e1 e2
            subst this
            rw [hx] at hxj; injection hxj with hxj; rw [hxj]
        · rw [if_neg e, hlk]
          constructor
          · rintro ⟨j', hj', hxj⟩; exact ⟨j', by simp [hj'], hxj⟩
          · rintro ⟨j', hj', hxj⟩
            rcases List.mem_append.1 hj' with h | h
            · exact ⟨j', h, hxj⟩
            · simp at h; subst h; rw [hx] at hxj; cases hxj; exact (e rfl).elim
      · have hc := hit3.count
        rw [List.length_append, List.length_singleton] at hc
        show ml.length - sizeAt _ _ < ml.length - sizeAt _ _
        rw [sizeAt_mp hm3, sizeAt_mp hm1, hl3]
        omega
end Go.Mdl
