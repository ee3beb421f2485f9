/- Gathering: Done. -/
import Derived.Test.YtcdgeeakfoofpabGatB
namespace Go.Gat
open Go.Vx Go.Vc Go.Proofs Go.Pak

/-- A text that is told: its own, and not in H. -/
structure OwnB (H G : PHeap) (s : BS) : Prop where
  own : OwnL G 5 bE 1 s.oa s.n s.c s.l
  off : Off H s.oa
  small : s.n ≤ 300
theorem OwnB.ok {H G : PHeap} {s : BS} (h : OwnB H G s) : OkB G s := ⟨h.own.rd (E := bE) (sz := 1) (by omega) bLen, h.own.le, h.small⟩
/-- Everybody's bytes are there, and it is known whose. -/
def doneB (kn : Bool) (who : List Int) (got : List (Int × BS)) : Bool := kn && who.all fun i => (mlook got i).isSome
/-- What is told of a node. -/
def texts (who : List Int) (got : List (Int × BS)) : List (List Int) := who.map fun i => ((mlook got i).getD s0).l
theorem done_ok {F H : PHeap} {k : Nat} {gm : Option Nat} {kn : Bool} {who : List Int} {got : List (Int × BS)} (h : GaS F H k gm kn who got) :
    Triple Try.prog 11 #[.pointer (at0 k)] H fun v H' => Sub H H' ∧
      ((doneB kn who got = false ∧ v = .tuple #[.slice none 0 0, .slice none 0 0, .bool false]) ∨
       (doneB kn who got = true ∧ ∃ b n c b2 n2 c2 L, v = .tuple #[.slice b n c, .slice b2 n2 c2, .bool true] ∧ RdL H' iE 1 b n who ∧ RdL H' sE 1 b2 n2 L ∧ L.map (·.l) = texts who got ∧ ∀ s ∈ L, OwnB H H' s)) := by
  refine done.vc (at0 k) H _ ((known_ok h).mono ?_)
  rintro _ H ⟨rfl, rfl⟩
  refine ⟨_, rfl, fun e => ?_, fun e => ?_⟩
  · have e' : kn = false := by simpa using e
    subst e'
    exact ⟨Sub.refl _, .inl ⟨rfl, rfl⟩⟩
  have e' : kn = true := by simpa using e
  subst e'
  obtain ⟨oa, n, c, h1, h2, h3⟩ := h.row
  refine ⟨neP k, neP k, oa, n, c, h1.r1, fun t H' => match t with
    | [.slice a q d, .int _ i] => 0 ≤ i ∧ i ≤ n ∧ Sub H H' ∧ (who.take i.toNat).all (fun i => (mlook got i).isSome) = true ∧ ∃ L : List BS, OwnL H' 32 sE 1 a q d L ∧ Off H a ∧ L.map (·.l) = texts (who.take i.toNat) got ∧ ∀ s ∈ L, OwnB H H' s ∧ ∀ p p', s.oa = some p → a = some p' → p.block ≠ p'.block
    | _ => False, fun t _ => match t with | [_, .int _ i] => (n - i).toNat | _ => 0, ⟨by omega, by omega, Sub.refl _, by simp, [], Owns.nil _ _ 1, Off.none _, by simp [texts], by simp⟩, ?_⟩
  rintro a q d i H1 ⟨i0, i1, hs1, hall, L, how, hoff, htx, hL⟩
  obtain ⟨i, rfl⟩ : ∃ j : Nat, i = j := ⟨i.toNat, by omega⟩
  rw [Int.toNat_natCast] at hall htx
  have hwl := h2.len
  have hql : L.length = q := (how.rd (E := sE) (sz := 1) (by omega) sLen).len
  have hLl : L.length = i := by
    have := congrArg List.length htx
    simp only [List.length_map, texts, List.length_take] at this
    omega
  have hrd := h2.mono (h.sub.trans hs1)
  refine ⟨fun hi => ?_, fun hi => ?_⟩
  · have hi' : i < n := by simpa using hi
    obtain ⟨y, hy, hyr⟩ := hrd.ex (i := (i : Int)) (by omega) (by omega)
    rw [Int.toNat_natCast] at hy
    refine ⟨hrd.ob (by omega) (by omega), y, hyr, neP k, neP k, gm, (h1.sub hs1).r2, look_ok h hs1 ?_⟩
    rw [if_pos rfl]
    refine ⟨_, _, _, _, rfl, fun e => ?_, fun e => ?_⟩
    · refine ⟨hs1, .inl ⟨?_, rfl⟩⟩
      have e' : (mlook got y).isSome = false := by simpa using e
      simp only [doneB, Bool.true_and]
      rw [List.all_eq_false]
      exact ⟨y, List.mem_of_getElem? hy, by rw [e']; simp⟩
    · have e' : (mlook got y).isSome = true := by simpa using e
      obtain ⟨s, hs⟩ := Option.isSome_iff_exists.1 e'
      have hok := (h.ok _ (mlook_mem hs)).mono (h.sub.trans hs1)
      rw [hs]
      simp only [Option.getD_some]
      have hsm := hok.small
      refine (cloneB_ok hok.rd (by omega)).mono ?_
      rintro _ H2 ⟨b2, k2, rfl, g1, g2, g3⟩
      refine ⟨b2, s.n, k2, rfl, fun k3 hk3 => ?_⟩
      have how2 : OwnL H2 32 sE 1 a q d L := Owns.mono how fun _ o _ ho => g2.le _ _ ho
      refine append_one tS hk3 (E := sE) (x := ⟨b2, s.n, k2, s.l⟩) sLen how2 rfl (sOne _) (by simp [maxLen]; omega) (by omega) ?_
      intro a5 c5 H5 g5 hf5 hfr5 _
      have hs2 : Sub H H2 := hs1.trans g2
      refine ⟨a5, _, c5, rfl, ⟨?_, ?_, hf5.sub hs2 hoff, ?_, L ++ [⟨b2, s.n, k2, s.l⟩], g5, hfr5.off hs2 hoff, ?_, ?_⟩, ⟨?_⟩⟩
      · rw [wrapS (by omega) (by omega)]; omega
      · rw [wrapS (by omega) (by omega)]; omega
      · rw [wrapS (by omega) (by omega), show ((i : Int) + 1).toNat = i + 1 by omega, List.take_add_one, hy, List.all_append, hall]
        simp [e']
      · rw [wrapS (by omega) (by omega), show ((i : Int) + 1).toNat = i + 1 by omega, List.take_add_one, hy, List.map_append, htx]
        simp [texts, hs]
      · -- each text lies apart
        have each : ∀ u : BS, OwnB H H2 u → (∀ p p', u.oa = some p → a = some p' → p.block ≠ p'.block) → OwnB H H5 u ∧ ∀ p p', u.oa = some p → a5 = some p' → p.block ≠ p'.block := by
          intro u hu hap
          refine ⟨⟨Owns.mono hu.own fun x o hx ho => hf5 _ _ ho fun a' ha' => hap x a' hx ha', hu.off, hu.small⟩, fun p p' hp hp' => ?_⟩
          rcases hfr5 p' hp' with ⟨a', ha', e1⟩ | hno
          · rw [← e1]; exact hap p a' hp ha'
          · intro e1
            have ho := hu.own
            rw [hp] at ho
            obtain ⟨o, ho⟩ := ho.blk
            rw [e1, hno] at ho; cases ho
        intro u hu
        rcases List.mem_append.1 hu with hu | hu
        · obtain ⟨hu1, hu2⟩ := hL u hu
          exact each u ⟨Owns.mono hu1.own fun _ o _ ho => g2.le _ _ ho, hu1.off, hu1.small⟩ hu2
        · simp at hu
          subst hu
          refine each _ ⟨g1, fun x hx => ?_, hok.small⟩ fun p p' hp hp' e1 => ?_
          · have := g3 x hx
            cases hh : H x.block with
            | none => rfl
            | some o => rw [hs1.le _ _ hh] at this; cases this
          · have := g3 p hp
            subst hp'
            obtain ⟨o, ho⟩ := how.blk
            rw [e1, ho] at this; cases this
      · simp only [wrapS (show (0 : Int) ≤ i by omega) (show (i : Int) ≤ 1000000 by omega)]
        omega
  · have hi' : ¬ i < n := by simpa using hi
    rw [List.take_of_length_le (by omega)] at hall htx
    refine ⟨neP k, neP k, oa, n, c, (h1.sub hs1).r1, (cloneI_ok hrd (by omega)).mono ?_⟩
    rintro _ H2 ⟨b, m, rfl, g1, g2, g3⟩
    refine ⟨b, n, m, rfl, hs1.trans g2, .inr ⟨by simpa [doneB] using hall, b, n, m, a, q, d, L, rfl, g1.rd (E := iE) (sz := 1) (by omega) iLen, (how.rd (E := sE) (sz := 1) (by omega) sLen).mono g2, htx, fun s hs => ?_⟩⟩
    obtain ⟨hu1, _⟩ := hL s hs
    exact ⟨Owns.mono hu1.own fun _ o _ ho => g2.le _ _ ho, hu1.off, hu1.small⟩
theorem done_nil (H : PHeap) : Triple Try.prog 11 #[.pointer none] H fun v H' => v = .tuple #[.slice none 0 0, .slice none 0 0, .bool false] ∧ H' = H := by
  refine done.vc none H _ ((known_nil H).mono ?_)
  rintro _ _ ⟨rfl, rfl⟩
  exact ⟨_, rfl, fun _ => ⟨rfl, rfl⟩, fun e => by simp at e⟩
end Go.Gat
