/- The contract of a search through numbers by a function. -/
import Derived.Test.YthcfmcmmmpfjoaaRndA
namespace Go.Rnd
open Go.Vx Go.Vc Go.Proofs

theorem contFunc_ok {F H : PHeap} {oa : Option Addr} {n c : Nat} {l : List Int} {f : Value} {p : Int → Bool} (hF : Sub F H) (hl : RdL H iE 1 oa n l) (hn : n ≤ 100000) (hf : Tells F f (Value.int .i64) p) :
    Triple Try.prog 49 #[.slice oa n c, f] H fun v H' => v = .bool (l.any p) ∧ Sub H H' := by
  have hll := hl.len
  have hidx : Triple Try.prog 77 #[.slice oa n c, f] H fun v H' => ∃ i : Int, v = .int .i64 i ∧ decide (i ≥ 0) = l.any p ∧ Sub H H' := by
    refine idxFunc.vc oa n c f H _ ⟨fun t H' => match t with | [.int _ i] => 0 ≤ i ∧ i ≤ n ∧ Sub H H' ∧ (l.take i.toNat).any p = false | _ => False, fun t _ => match t with | [.int _ i] => (n - i).toNat | _ => 0, ⟨by omega, by omega, Sub.refl _, by simp⟩, ?_⟩
    rintro i H1 ⟨i0, i1, hs, hno⟩
    obtain ⟨i, rfl⟩ : ∃ j : Nat, i = j := ⟨i.toNat, by omega⟩
    rw [Int.toNat_natCast] at hno
    have hl1 := hl.mono hs
    refine ⟨fun hi => ?_, fun hi => ?_⟩
    · have hi' : i < n := by simpa using hi
      obtain ⟨y, hy, hyr⟩ := hl1.ex (i := (i : Int)) (by omega) (by omega)
      rw [Int.toNat_natCast] at hy
      refine ⟨hl1.ob (by omega) (by omega), y, hyr, hf H1 y _ (hF.trans hs) fun H2 hs2 => ⟨_, rfl, fun he => ⟨_, rfl, ?_, hs.trans hs2⟩, fun he => ?_⟩⟩
      · have h1 : l.any p = true := List.any_eq_true.2 ⟨y, List.mem_of_getElem? hy, he⟩
        simp [h1]
      · rw [wrapS (by omega) (by omega)]
        refine ⟨⟨by omega, by omega, hs.trans hs2, ?_⟩, ⟨by simp only; omega⟩⟩
        rw [show ((i : Int) + 1).toNat = i + 1 by omega, List.take_add_one, hy, List.any_append, hno]
        simp [he]
    · have : ¬ i < n := by simpa using hi
      rw [List.take_of_length_le (by omega)] at hno
      exact ⟨_, rfl, by simp [hno], hs⟩
  refine contFunc.vc oa n c f H _ (hidx.mono ?_)
  rintro _ H' ⟨i, rfl, he, hs⟩
  exact ⟨i, rfl, by rw [he], hs⟩
end Go.Rnd
