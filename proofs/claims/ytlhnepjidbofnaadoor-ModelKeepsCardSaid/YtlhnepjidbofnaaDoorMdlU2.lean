/- The law's bound: the contract of far. -/
import Derived.Test.YtlhnepjidbofnaaDoorMdlU1
import Derived.Test.YtlhnepjidbofnaaDoorVcMdlP
namespace Go.Mdl
open Go.Vx Go.Vc Go.Proofs Go.Txt Go.Lab

/-- Events of any size. -/
structure EvR0 (H : PHeap) (v : EvW) (x : EvX) : Prop where
  kind : v.kind = x.kind
  id : v.id = x.id
  op : OpW H v.op x.op
  an : AnR H v.an x.an
structure EvL0 (H : PHeap) (a : Option Addr) (n : Nat) (l : List EvX) : Prop where
  out : ∃ vs, RdL H evE 10 a n vs ∧ vs.length = l.length ∧ ∀ (i : Nat) (v : EvW) (x : EvX), vs[i]? = some v → l[i]? = some x → EvR0 H v x
/-- What an event is, that is not too much. -/
structure NearE (x : EvX) : Prop where
  s : x.op.s.size ≤ 40
  d : x.op.d.size ≤ 300
  ad : x.an.data.size ≤ 300
  nl : x.an.names.length ≤ 60
  ns : ∀ s ∈ x.an.names, s.size ≤ 40
theorem lfar_ok {H : PHeap} {a : Option Addr} {n c : Nat} {l : List EvX} (h : EvL0 H a n l) (hn : n ≤ maxLen) :
    Triple Tryd.prog 4 #[.slice a n c] H fun v H' => ∃ b, v = .bool b ∧ H' = H ∧ (b = false → n ≤ 40 ∧ EvL H a n l ∧ SmallE l ∧ ∀ e ∈ l, NearE e) := by
  obtain ⟨vs, hr, hvl, hev⟩ := h.out
  have hrl := hr.len
  have hm : maxLen ≤ 9223372036854775807 := by simp [maxLen]
  refine lFar.vc a n c H _ ⟨fun t H' => match t with | [.int _ k, .int _ i] => 0 ≤ i ∧ i ≤ n ∧ H' = H ∧ k = ((l.take i.toNat).countP isFl : Nat) ∧ ∀ e ∈ l.take i.toNat, NearE e | _ => False, fun t _ => match t with | [_, .int _ i] => (n - i).toNat | _ => 0, ⟨by omega, by omega, rfl, by simp, by simp⟩, ?_⟩
  rintro k i _ ⟨i0, i1, rfl, hk, hne⟩
  obtain ⟨i, rfl⟩ : ∃ j : Nat, i = j := ⟨i.toNat, by omega⟩
  rw [Int.toNat_natCast] at hk hne
  have hki : (l.take i).countP isFl ≤ i := Nat.le_trans List.countP_le_length (by rw [List.length_take]; omega)
  refine ⟨fun hi => ?_, fun hi => ?_⟩
  · have hi' : i < n := by simpa using hi
    have ew : IntKind.i64.wrap ((i : Int) + 1) = (i : Int) + 1 := wrap64 (by omega) (by omega)
    have ei : ((i : Int) + 1).toNat = i + 1 := by omega
    have he : l[i]? = some l[i] := List.getElem?_eq_getElem (by omega)
    generalize l[i] = e at he
    obtain ⟨w, hw, hwr⟩ := hr.ex (i := (i : Int)) (by omega) (by omega)
    rw [Int.toNat_natCast] at hw
    have hx := hev i w e hw he
    have hbl := bw_len hx.op.d
    have hbl2 := bw_len hx.an.data
    have hkk := hx.kind
    have hee := hx.an.e
    have hss := hx.op.s
    refine ⟨hr.ob (by omega) (by omega), w.kind, w.id, w.ballot, w.op.k, w.op.s, w.op.a, w.op.n, w.op.c, w.an.e, w.an.size, w.an.d.a, w.an.d.n, w.an.d.c, w.an.n.a, w.an.n.n, w.an.n.c, hwr, fun e1 => ⟨fun e2 => ⟨fun e3 => (far_ok hx.an.names).mono ?_, fun e3 => ⟨true, rfl, rfl, fun e => by cases e⟩⟩, fun e2 => ⟨true, rfl, rfl, fun e => by cases e⟩⟩, fun e1 => ⟨true, rfl, rfl, fun e => by cases e⟩⟩
    rintro _ _ ⟨b, rfl, rfl, hb⟩
    refine ⟨b, rfl, fun eb => ⟨true, rfl, rfl, fun e => by cases e⟩, fun eb => ?_⟩
    obtain ⟨h1, h2⟩ := hb eb
    have e1 := of_decide_eq_false e1
    have e2 := of_decide_eq_false e2
    have e3 := of_decide_eq_false e3
    rw [ew]
    refine ⟨⟨by omega, by omega, rfl, ?_, ?_⟩, ⟨by simp only; omega⟩⟩
    · rw [ei, List.take_add_one, he, List.countP_append]
      simp only [Option.toList, List.countP_cons, List.countP_nil]
      have hfe : (bif w.kind == 4 then true else w.an.e == 13) = isFl e := by
        rw [hkk, hee]; unfold isFl
        by_cases h4 : e.kind = 4 <;> by_cases h13 : e.an.e = 13 <;> simp [h4, h13]
      rw [wrap64 (by omega) (by omega), hfe, hk]
      cases isFl e <;> simp
    · rw [ei, List.take_add_one, he]
      intro x hx'
      rcases List.mem_append.1 hx' with hx' | hx'
      · exact hne x hx'
      · simp at hx'; subst hx'
        exact ⟨by rw [← hss]; omega, by omega, by omega, by rw [hx.an.names.len]; exact h1, h2⟩
  · have : ¬ i < n := by simpa using hi
    rw [List.take_of_length_le (by omega)] at hk hne
    refine ⟨_, rfl, rfl, fun hb => ?_⟩
    simp only [Bool.cond_eq_ite] at hb
    have hk4 : ¬ k > 4 := by intro hh; simp [hh] at hb
    have hn40 : n ≤ 40 := by simp [hk4] at hb; omega
    refine ⟨hn40, ⟨⟨vs, hr, hvl, fun j v x hv hx => ?_⟩, fun e he => ?_⟩, ⟨fun e he => by have := (hne e he).d; omega, by omega, by omega⟩, hne⟩
    · have h0 := hev j v x hv hx
      exact ⟨h0.kind, h0.id, h0.op, h0.an, by have := (hne x (List.mem_of_getElem? hx)).nl; have := h0.an.names.len; omega⟩
    · have := hne e he
      exact ⟨by have := this.d; omega, fun s hs => by have := this.ns s hs; omega, by have := this.s; omega⟩
end Go.Mdl
