/- Plain law: the example of the document. -/
import Derived.Test.YtlhnepjidbofnaaDoorMdlU2
namespace Go.Mdl
open Go.Vx Go.Vc Go.Proofs Go.Txt Go.Lab

def sa : ByteArray := ⟨#[97]⟩
def d7 : ByteArray := ⟨#[7]⟩
def putX : OpX := ⟨1, sa, d7⟩
def getX : OpX := ⟨2, sa, ⟨#[]⟩⟩
def pre5 : List EvX := [⟨1, 0, putX, an0⟩, ⟨2, 0, putX, an0⟩, ⟨3, 0, op0, ⟨13, 0, ⟨#[]⟩, []⟩⟩, ⟨1, 1, getX, an0⟩, ⟨2, 1, getX, an0⟩]
def noneE (i : Int) : EvX := ⟨3, i, op0, ⟨10, 0, ⟨#[]⟩, []⟩⟩
def lA : List EvX := pre5 ++ [noneE 1]
def lB : List EvX := pre5 ++ [⟨3, 1, op0, ⟨0, 0, d7, []⟩⟩, ⟨1, 2, getX, an0⟩, ⟨2, 2, getX, an0⟩, noneE 2]
theorem name_a : NameP sa := by
  refine ⟨by decide, by decide, by decide, fun i hi => ?_⟩
  have : i = 0 := by have : sa.size = 1 := rfl; omega
  subst this
  exact .inl (by decide)
theorem check_put : checkX putX = 0 := by
  unfold checkX
  have h := name_a
  simp [putX, h, show d7.size = 1 from rfl]
theorem check_get : checkX getX = 0 := by
  unfold checkX
  have h := name_a
  simp [getX, h, show (⟨#[]⟩ : ByteArray).size = 0 from rfl]
def uA : Ch := ⟨false, ⟨#[]⟩, [(true, d7)]⟩
def vA : Ch := ⟨true, d7, []⟩
theorem reach_end {x z : Ch} (h : nextL x = []) : Reach x z ↔ z = x := by
  constructor
  · intro hr
    rcases Reach.split hr with e | ⟨y, hy, _⟩
    · exact e
    · rw [h] at hy; cases hy
  · rintro rfl; exact .refl
theorem reach_c0 {z : Ch} : Reach c0 z ↔ z = c0 := reach_end rfl
theorem reach_v {z : Ch} : Reach vA z ↔ z = vA := reach_end rfl
theorem next_u : nextL uA = [vA] := rfl
theorem reach_u {z : Ch} : Reach uA z ↔ z = uA ∨ z = vA := by
  constructor
  · intro hr
    rcases Reach.split hr with e | ⟨y, hy, hr⟩
    · exact .inl e
    · rw [next_u] at hy; simp at hy; subst hy; exact .inr (reach_v.1 hr)
  · rintro (rfl | rfl)
    · exact .refl
    · exact Reach.head (by rw [next_u]; simp) .refl
def P5 (l : List EvX) : Prop := ∀ (i : Nat) (e : EvX), pre5[i]? = some e → l[i]? = some e
theorem p5A : P5 lA := fun i e h => by unfold lA; rw [List.getElem?_append_left (List.getElem?_eq_some_iff.1 h).1]; exact h
theorem p5B : P5 lB := fun i e h => by unfold lB; rw [List.getElem?_append_left (List.getElem?_eq_some_iff.1 h).1]; exact h
section
variable {l : List EvX}
theorem o0 : opsAt l 0 = [] := rfl
theorem o1 (h : P5 l) : opsAt l 1 = [⟨putX, false, false⟩] := by rw [opsAt_succ (h 0 _ rfl), o0]; rfl
theorem o2 (h : P5 l) : opsAt l 2 = [⟨putX, true, false⟩] := by rw [opsAt_succ (h 1 _ rfl), o1 h]; rfl
theorem o3 (h : P5 l) : opsAt l 3 = [⟨putX, true, true⟩] := by rw [opsAt_succ (h 2 _ rfl), o2 h]; rfl
theorem o4 (h : P5 l) : opsAt l 4 = [⟨putX, true, true⟩, ⟨getX, false, false⟩] := by rw [opsAt_succ (h 3 _ rfl), o3 h]; rfl
theorem o5 (h : P5 l) : opsAt l 5 = [⟨putX, true, true⟩, ⟨getX, true, false⟩] := by rw [opsAt_succ (h 4 _ rfl), o4 h]; rfl
theorem call_ord {ops : List OpS} {e : EvX} (hk : e.kind = 1) (hi : e.id = ops.length) : orderP ops e := .inl ⟨hk, hi⟩
theorem beg_ord {ops : List OpS} {e : EvX} {o : OpS} (hk : e.kind = 2) (hi : 0 ≤ e.id) (ho : ops[e.id.toNat]? = some o) (h1 : o.over = false) (h2 : o.began = false) (h3 : ∀ o ∈ ops, ¬ (o.began = true ∧ o.over = false)) (h4 : o.op = e.op) (h5 : checkX e.op = 0) : orderP ops e :=
  .inr ⟨by omega, hi, o, ho, h1, .inl ⟨hk, h2, fun ⟨o', ho', hh⟩ => h3 o' ho' hh, h4, h5⟩⟩
theorem ans_ord {ops : List OpS} {e : EvX} {o : OpS} (hk : e.kind = 3) (hi : 0 ≤ e.id) (ho : ops[e.id.toNat]? = some o) (h1 : o.over = false) (h2 : o.began = true) (h3 : formP ops o.op e.an) : orderP ops e :=
  .inr ⟨by omega, hi, o, ho, h1, .inr (.inl ⟨hk, .inl ⟨h2, h3⟩⟩)⟩
theorem ok5 (h : P5 l) : okAt l 5 := by
  have k0 : okAt l 0 := fun j e hj => by omega
  have k1 := (okAt_succ (h 0 _ rfl)).2 ⟨k0, call_ord rfl (by rw [o0]; rfl)⟩
  have k2 := (okAt_succ (h 1 _ rfl)).2 ⟨k1, beg_ord (o := ⟨putX, false, false⟩) rfl (by decide) (by rw [o1 h]; rfl) rfl rfl (by rw [o1 h]; simp) rfl check_put⟩
  have k3 := (okAt_succ (h 2 _ rfl)).2 ⟨k2, ans_ord (o := ⟨putX, true, false⟩) rfl (by decide) (by rw [o2 h]; rfl) rfl rfl (by unfold formP; simp [plainX]; rfl)⟩
  have k4 := (okAt_succ (h 3 _ rfl)).2 ⟨k3, call_ord rfl (by rw [o3 h]; rfl)⟩
  exact (okAt_succ (h 4 _ rfl)).2 ⟨k4, beg_ord (o := ⟨getX, false, false⟩) rfl (by decide) (by rw [o4 h]; rfl) rfl rfl (by rw [o4 h]; simp) rfl check_get⟩
theorem quiet {ops : List OpS} {e : EvX} (hk : e.kind ≤ 2) (t : ByteArray) : evStep ops t e = [] := by
  unfold evStep
  split
  · unfold evStepO; rw [if_neg (fun h => by omega)]
  · rfl
theorem RA_quiet {i : Nat} {e : EvX} (he : l[i]? = some e) (hk : e.kind ≤ 2) (t : ByteArray) (z : Ch) : RA l (i + 1) t z ↔ RA l i t z := by
  rw [RA_succ he, quiet hk]; rfl
theorem R5 (h : P5 l) {z : Ch} : RA l 5 sa z ↔ z = uA ∨ z = vA := by
  rw [RA_quiet (h 4 _ rfl) (by decide), RA_quiet (h 3 _ rfl) (by decide), RA_succ (h 2 _ rfl)]
  have hs : evStep (opsAt l 2) sa ⟨3, 0, op0, ⟨13, 0, ⟨#[]⟩, []⟩⟩ = [⟨1, putX, an0⟩] := by
    rw [o2 h]; unfold evStep; simp only [Int.toNat_zero, List.getElem?_cons_zero]; unfold evStepO; simp [putX]
  rw [hs]
  show keepR (sF (nm sa ⟨1, putX, an0⟩)) _ z ↔ _
  have e2 : nm sa ⟨1, putX, an0⟩ = ⟨1, putX, an0⟩ := rfl
  rw [e2, sF_float, drift_keep, ← reach_u]
  unfold driftR
  constructor
  · rintro ⟨y, hy, hr⟩
    rw [RA_quiet (h 1 _ rfl) (by decide), RA_quiet (h 0 _ rfl) (by decide), RA_zero, reach_c0] at hy
    subst hy; exact hr
  · intro hr
    refine ⟨c0, ?_, hr⟩
    rw [RA_quiet (h 1 _ rfl) (by decide), RA_quiet (h 0 _ rfl) (by decide), RA_zero]
    exact .refl
end
theorem ok_of {l : List EvX} {i : Nat} (h : okAt l i) (hn : ∀ s ∈ namesOf l, s = sa) (hz : ∃ z, RA l i sa z) : okR l i := by
  refine ⟨h, fun s => ?_⟩
  by_cases hs : s ∈ namesOf l
  · rw [hn s hs]; exact hz
  · exact ⟨c0, by unfold RA stsN; rw [not_called hs]; exact .refl⟩
theorem sF_none (op : OpX) (i : Int) : sF (nm sa ⟨2, op, (noneE i).an⟩) = fun x => noneF x := by
  have e2 : nm sa ⟨2, op, (noneE i).an⟩ = ⟨2, op, (noneE i).an⟩ := rfl
  rw [e2, sF_ans]; rfl
theorem okA : okR lA 6 := by
  have h := p5A
  have he : lA[5]? = some (noneE 1) := rfl
  refine ok_of ((okAt_succ he).2 ⟨ok5 h, ans_ord (o := ⟨getX, true, false⟩) rfl (by decide) (by rw [o5 h]; rfl) rfl rfl ?_⟩) ?_ ⟨uA, ?_⟩
  · unfold formP noneE; simp [plainX, getX]; rfl
  · intro s hs; simp [namesOf, lA, pre5, noneE, putX, getX] at hs; exact hs
  · rw [RA_succ he]
    have hs : evStep (opsAt lA 5) sa (noneE 1) = [⟨2, getX, (noneE 1).an⟩] := by
      rw [o5 h]; unfold evStep noneE; simp only [Int.toNat_one, List.getElem?_cons_succ, List.getElem?_cons_zero]; unfold evStepO; simp [getX]
    rw [hs]
    show keepR (sF (nm sa ⟨2, getX, (noneE 1).an⟩)) _ uA
    rw [sF_none]
    exact ⟨uA, (R5 h).2 (.inl rfl), uA, rfl, .refl⟩
theorem eB5 : lB[5]? = some ⟨3, 1, op0, ⟨0, 0, d7, []⟩⟩ := rfl
theorem eB6 : lB[6]? = some ⟨1, 2, getX, an0⟩ := rfl
theorem eB7 : lB[7]? = some ⟨2, 2, getX, an0⟩ := rfl
theorem eB8 : lB[8]? = some (noneE 2) := rfl
theorem o6B : opsAt lB 6 = [⟨putX, true, true⟩, ⟨getX, true, true⟩] := by rw [opsAt_succ eB5, o5 p5B]; rfl
theorem o7B : opsAt lB 7 = [⟨putX, true, true⟩, ⟨getX, true, true⟩, ⟨getX, false, false⟩] := by rw [opsAt_succ eB6, o6B]; rfl
theorem o8B : opsAt lB 8 = [⟨putX, true, true⟩, ⟨getX, true, true⟩, ⟨getX, true, false⟩] := by rw [opsAt_succ eB7, o7B]; rfl
theorem ok8 : okAt lB 8 := by
  have k6 := (okAt_succ eB5).2 ⟨ok5 p5B, ans_ord (o := ⟨getX, true, false⟩) rfl (by decide) (by rw [o5 p5B]; rfl) rfl rfl (by unfold formP; simp [getX])⟩
  have k7 := (okAt_succ eB6).2 ⟨k6, call_ord rfl (by rw [o6B]; rfl)⟩
  exact (okAt_succ eB7).2 ⟨k7, beg_ord (o := ⟨getX, false, false⟩) rfl (by decide) (by rw [o7B]; rfl) rfl rfl (by rw [o7B]; simp) rfl check_get⟩
theorem R8 {z : Ch} : RA lB 8 sa z ↔ z = vA := by
  rw [RA_quiet eB7 (by decide), RA_quiet eB6 (by decide), RA_succ eB5]
  have hs : evStep (opsAt lB 5) sa ⟨3, 1, op0, ⟨0, 0, d7, []⟩⟩ = [⟨2, getX, ⟨0, 0, d7, []⟩⟩] := by
    rw [o5 p5B]; unfold evStep; simp only [Int.toNat_one, List.getElem?_cons_succ, List.getElem?_cons_zero]; unfold evStepO; simp [getX]
  rw [hs]
  show keepR (sF (nm sa ⟨2, getX, ⟨0, 0, d7, []⟩⟩)) _ z ↔ _
  have e2 : nm sa ⟨2, getX, ⟨0, 0, d7, []⟩⟩ = ⟨2, getX, ⟨0, 0, d7, []⟩⟩ := rfl
  rw [e2, sF_ans]
  constructor
  · rintro ⟨y, hy, g, hg, hr⟩
    rcases (R5 p5B).1 hy with rfl | rfl
    · cases hg
    · have : g = vA := by
        have h1 : (some vA : Option Ch) = some g := by rw [← hg]; simp [getX, getF, vA]
        injection h1 with h1; exact h1.symm
      subst this; exact reach_v.1 hr
  · rintro rfl
    refine ⟨vA, (R5 p5B).2 (.inr rfl), vA, ?_, .refl⟩
    simp [getX, getF, vA]
theorem okB : okR lB 8 := ok_of ok8 (fun s hs => by simp [namesOf, lB, pre5, noneE, putX, getX] at hs; exact hs) ⟨vA, R8.2 rfl⟩
theorem notB : ¬ okR lB 9 := fun h => by
  obtain ⟨z, hz⟩ := h.2 sa
  rw [RA_succ eB8] at hz
  have hs : evStep (opsAt lB 8) sa (noneE 2) = [⟨2, getX, (noneE 2).an⟩] := by
    rw [o8B]; unfold evStep noneE; simp only [show (2 : Int).toNat = 2 from rfl, List.getElem?_cons_succ, List.getElem?_cons_zero]; unfold evStepO; simp [getX]
  rw [hs] at hz
  have hz : keepR (sF (nm sa ⟨2, getX, (noneE 2).an⟩)) (RA lB 8 sa) z := hz
  rw [sF_none] at hz
  obtain ⟨y, hy, g, hg, _⟩ := hz
  rw [R8.1 hy] at hg
  cases hg
theorem can5 : IsCan (RA lB 5 sa) [(false, ⟨#[]⟩), (true, d7)] :=
  ⟨true, [d7], rfl, ⟨fun _ => ⟨uA, (R5 p5B).2 (.inl rfl), rfl⟩, fun _ => rfl⟩, by simp [Rising], fun t => by
    constructor
    · intro h; simp at h; subst h; exact ⟨vA, (R5 p5B).2 (.inr rfl), rfl, rfl⟩
    · rintro ⟨z, hz, hp, rfl⟩
      rcases (R5 p5B).1 hz with rfl | rfl
      · cases hp
      · simp [vA]⟩
theorem can8 : IsCan (RA lB 8 sa) [(true, d7)] :=
  ⟨false, [d7], rfl, ⟨fun e => (by cases e), fun ⟨z, hz, hp⟩ => (by rw [R8.1 hz] at hp; cases hp)⟩, by simp [Rising], fun t => by
    constructor
    · intro h; simp at h; subst h; exact ⟨vA, R8.2 rfl, rfl, rfl⟩
    · rintro ⟨z, hz, hp, rfl⟩; rw [R8.1 hz]; simp [vA]⟩
theorem smallA : SmallE lA := ⟨by simp [lA, pre5, noneE, putX, getX, op0, d7]; decide, by decide, by decide⟩
theorem smallB : SmallE lB := ⟨by simp [lB, pre5, noneE, putX, getX, op0, d7]; decide, by decide, by decide⟩
end Go.Mdl
