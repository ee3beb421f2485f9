/- The map takes events, one behind the other: the contracts of Take (in a row) and Right. -/
import Derived.Test.YtlhnepjidbofnaaDoorMdlW4
namespace Go.Mdl
open Go.Vx Go.Vc Go.Proofs Go.Txt Go.Lab

/-- Events that are not too much. -/
structure SmallE (l : List EvX) : Prop where
  d : ∀ e ∈ l, e.op.d.size ≤ 1000
  len : l.length ≤ 60
  fl : l.countP isFl ≤ 4
theorem SmallE.take {l : List EvX} (h : SmallE l) (i : Nat) : SmallE (l.take i) :=
  ⟨fun e he => h.d e (List.mem_of_mem_take he), by rw [List.length_take]; have := h.len; omega, Nat.le_trans ((List.take_sublist i l).countP_le) h.fl⟩
theorem SmallE.good {l : List EvX} (h : SmallE l) (i : Nat) : Good (dsOf l) (fltAt l i) := good_at h.d h.len h.fl i
theorem SmallE.all {l : List EvX} (h : SmallE l) (i : Nat) : InAll (dsOf l) (fltAt l i) (RA l i) := in_all h.d h.len h.fl i
theorem SmallE.ends {l : List EvX} (h : SmallE l) (i : Nat) (s : ByteArray) (z : Ch) (hz : W (stsN l s i) c0 z) : (z.p, z.d) ∈ dsOf l := ends_in h.d h.len h.fl hz
theorem SmallE.ds {l : List EvX} (h : SmallE l) : (dsOf l).length ≤ 1000 := by rw [dsOf_len]; have := h.len; omega
theorem map_new {F H : PHeap} {m : Nat} (hs : Sub F H) (hm : H m = none) (l : List EvX) : MapK F (H.upd m (.cells #[.slice none 0 0, .map none] 37 (0, 0))) m ⟨none, 0, 0⟩ (opsAt l 0) (RA l 0) :=
  ⟨hs.trans (Sub.upd _ hm), hs.none hm, none, 0, 0, [], none, rfl, upd_eq .., .none _, Owns.nil _ _ _, by simp [OpsR, opsAt],
    ⟨[], fun _ => [c0], fun mb e => (by cases e), fun _ => rfl, fun s z => by rw [RA_zero]; simp, fun _ => by simp, fun _ _ => rfl, fun s v h => (by cases h)⟩⟩
/-- The map behind the first events. -/
structure RunK (F H : PHeap) (m : Nat) (l : List EvX) (i : Nat) : Prop where
  out : ∃ sl, MapK F H m sl (opsAt l i) (RA l i)
theorem RunK.mono {F H H' : PHeap} {m : Nat} {l : List EvX} {i : Nat} (h : RunK F H m l i) (hs : Sub H H') : RunK F H' m l i := by
  obtain ⟨sl, h⟩ := h.out; exact ⟨sl, h.mono hs⟩
theorem take_at {T : Lib.PrintTabs} {F H : PHeap} {m : Nat} {l : List EvX} {i : Nat} {e : EvX} {ev : EvW} (hT : Tabs F T) (hS : SmallE l) (h : RunK F H m l i) (hok : okR l i) (he : l[i]? = some e) (hev : EvR F ev e) :
    Triple Tryd.prog 6 #[.pointer (at0 m), .agg (evE ev).toArray] H fun v H' => ∃ b, v = .bool b ∧ (b = true ↔ okR l (i + 1)) ∧ RunK F H' m l (if b = true then i + 1 else i) := by
  obtain ⟨sl, hm⟩ := h.out
  have hol := opsAt_len (l := l) i
  have hil := (List.getElem?_eq_some_iff.1 he).1
  have hln := hS.len
  have hd := hS.d e (List.mem_of_getElem? he)
  refine (take_ok hT hm (hS.good i) (hS.all i) (by omega) hev (by omega)).mono ?_
  rintro _ H2 ⟨b, rfl, hb, sl', hm'⟩
  rw [run_iff he hok] at hb
  refine ⟨b, rfl, hb, ?_⟩
  cases b with
  | false => exact ⟨sl', hm'⟩
  | true =>
    have h1 := hb.1 rfl
    have h2 := run_step he hok.1 ((okAt_succ he).1 h1.1).2
    simp only [if_true] at hm' ⊢
    rw [← opsAt_succ he, h2] at hm'
    exact ⟨sl', hm'⟩
theorem okR_pred {l : List EvX} {i : Nat} {e : EvX} (he : l[i]? = some e) (h : okR l (i + 1)) : okR l i := by
  refine ⟨((okAt_succ he).1 h.1).1, fun s => ?_⟩
  obtain ⟨z, hz⟩ := h.2 s
  rw [RA_succ he] at hz
  unfold nxt at hz
  split at hz
  · exact ⟨z, hz⟩
  · obtain ⟨y, hy, _⟩ := hz; exact ⟨y, hy⟩
theorem okR_le {l : List EvX} {i : Nat} : ∀ k, i + k ≤ l.length → okR l (i + k) → okR l i
  | 0, _, h => h
  | k + 1, hk, h => okR_le k (by omega) (okR_pred (List.getElem?_eq_getElem (by omega)) h)
theorem mright_ok {T : Lib.PrintTabs} {H : PHeap} {a : Option Addr} {n c : Nat} {l : List EvX} (hT : Tabs H T) (h : EvL H a n l) (hS : SmallE l) :
    Triple Tryd.prog 10 #[.slice a n c] H fun v H' => ∃ b, v = .bool b ∧ (b = true ↔ okR l n) ∧ Sub H H' := by
  have hln := h.len
  have hl60 := hS.len
  refine mRight.vc a n c H _ fun m hm => sConE.vc a n c _ _ _ (sIdxE.vc a n c _ _ _ ⟨fun t H' => match t with | [.int _ i] => 0 ≤ i ∧ i ≤ n ∧ RunK H H' m l i.toNat ∧ okR l i.toNat | _ => False, fun t _ => match t with | [.int _ i] => (n - i).toNat | _ => 0, ⟨by omega, by omega, ⟨_, map_new (Sub.refl H) hm l⟩, okR_zero l⟩, ?_⟩)
  rintro i H1 ⟨i0, i1, hR, hok⟩
  obtain ⟨i, rfl⟩ : ∃ j : Nat, i = j := ⟨i.toNat, by omega⟩
  rw [Int.toNat_natCast] at hR hok
  have hsub : Sub H H1 := by obtain ⟨sl, h⟩ := hR.out; exact h.sub
  refine ⟨fun hi => ?_, fun hi => ?_⟩
  · have hi' : i < n := by simpa using hi
    have ew : IntKind.i64.wrap ((i : Int) + 1) = (i : Int) + 1 := wrap64 (by omega) (by omega)
    have ei : ((i : Int) + 1).toNat = i + 1 := by omega
    have he : l[i]? = some l[i] := List.getElem?_eq_getElem (by omega)
    generalize l[i] = e at he
    obtain ⟨w, hw, hr, hob, _⟩ := h.at he
    refine ⟨hob, w.kind, w.id, w.ballot, w.op.k, w.op.s, w.op.a, w.op.n, w.op.c, w.an.e, w.an.size, w.an.d.a, w.an.d.n, w.an.d.c, w.an.n.a, w.an.n.n, w.an.n.c, hr.mono hsub, CallY.fn (by kernel_rfl) (mRight1.vc _ _ _ _ _ _ _ _ _ _ _ _ _ _ _ _ _ _ _ ((take_at hT hS hR hok he hw).mono ?_))⟩
    rintro _ H2 ⟨b, rfl, hb, hR2⟩
    have hsub2 : Sub H H2 := by obtain ⟨sl, h⟩ := hR2.out; exact h.sub
    refine ⟨b, rfl, !b, rfl, fun e1 => ⟨_, rfl, _, rfl, false, ?_, ⟨fun e => (by cases e), fun hn => ?_⟩, hsub2⟩, fun e1 => ?_⟩
    · simp
    · have : okR l (i + 1) := okR_le (n - (i + 1)) (by omega) (by rwa [show i + 1 + (n - (i + 1)) = n by omega])
      have := hb.2 this
      simp [this] at e1
    · have bt : b = true := by simpa using e1
      rw [bt] at hR2
      rw [ew]
      exact ⟨⟨by omega, by omega, by rw [ei]; simpa using hR2, by rw [ei]; exact hb.1 bt⟩, ⟨by simp only; omega⟩⟩
  · have : ¬ i < n := by simpa using hi
    have ein : i = n := by omega
    subst ein
    exact ⟨_, rfl, _, rfl, true, by simp, ⟨fun _ => hok, fun _ => rfl⟩, hsub⟩
end Go.Mdl
