/- The example of the law about rounds. -/
import Derived.Test.YtinodncpmbamoaaRndD
namespace Go.Rnd
open Go.Vx Go.Vc Go.Proofs

/-- A message to a node, with nothing else; one from a node. -/
abbrev askTo (n : Int) : Msg := (0, 0, n, 0, ⟨#[]⟩, 0, 0, 0, 0, 0, ⟨none, 0, 0, []⟩, ⟨none, 0, 0, []⟩, ⟨none, 0, 0, []⟩)
abbrev ansOf (n : Int) : Msg := (0, n, 0, 0, ⟨#[]⟩, 0, 0, 0, 0, 0, ⟨none, 0, 0, []⟩, ⟨none, 0, 0, []⟩, ⟨none, 0, 0, []⟩)
theorem one_key {m : Msg} {n : Int} {K : List Int} (h : GotL [(n, m)] K) : K = [n] := List.perm_singleton.1 h.perm
theorem look_one (n : Int) (m : Msg) : mlook [(n, m)] n = some m := by simp [mlook]
theorem look_other {n k : Int} (m : Msg) (h : k ≠ n) : mlook [(n, m)] k = none := by
  have : ¬ n = k := fun e => h e.symm
  simp [mlook, this]
theorem again_one {n k : Int} (m : Msg) (h : k ≠ n) : again [askTo n, askTo k] [(n, m)] = [askTo k] := by
  unfold again
  rw [List.filter_cons, List.filter_cons]
  simp only [to_, look_one, look_other m h]
  rfl
theorem again_two {n k : Int} (m : Msg) (h : k ≠ n) : again [askTo k, askTo n] [(n, m)] = [askTo k] := by
  unfold again
  rw [List.filter_cons, List.filter_cons]
  simp only [to_, look_one, look_other m h]
  rfl
theorem two_asks {H : PHeap} {k1 k2 : Nat} (n1 n2 w : Int) (h1 : H k1 = none) (h2 : H.upd k1 (.cells (([askTo n1, askTo n2] : List Msg).flatMap mE).toArray 36) k2 = none) :
    Sub H ((H.upd k1 (.cells (([askTo n1, askTo n2] : List Msg).flatMap mE).toArray 36)).upd k2 (.cells #[.int .i64 w] 3)) ∧
    RdL ((H.upd k1 (.cells (([askTo n1, askTo n2] : List Msg).flatMap mE).toArray 36)).upd k2 (.cells #[.int .i64 w] 3)) mE 13 (at0 k1) 2 [askTo n1, askTo n2] ∧
    RdL ((H.upd k1 (.cells (([askTo n1, askTo n2] : List Msg).flatMap mE).toArray 36)).upd k2 (.cells #[.int .i64 w] 3)) iE 1 (at0 k2) 1 [w] := by
  have b1 := (Bx.new H k1 36 (([askTo n1, askTo n2] : List Msg).flatMap mE)).upd (.cells #[.int .i64 w] 3) h2
  have b2 := Bx.new (H.upd k1 (.cells (([askTo n1, askTo n2] : List Msg).flatMap mE).toArray 36)) k2 3 (([w] : List Int).flatMap iE)
  exact ⟨(Sub.upd _ h1).trans (Sub.upd _ h2), b1.rd mLen, b2.rd iLen⟩
theorem alive_ok (H : PHeap) : Triple Try.prog 5 #[] H fun v H' => v = .bool true ∧ Sub H H' := by
  refine aliveR.vc H _ fun k1 hk1 k2 hk2 => ?_
  obtain ⟨s0, r1, r2⟩ := two_asks 1 2 2 hk1 hk2
  refine (new_ok (tries := 1) (c := 2) (d := 1) r1 r2 (by omega) (by omega)).mono ?_
  rintro _ H1 ⟨k, F, rfl, h1, sF⟩
  refine ⟨at0 k, rfl, (take_ok (m := ansOf 2) h1).mono ?_⟩
  have ht : takesB [2] [] (ansOf 2) = true := by simp [takesB, mlook]
  rw [ht]
  rintro _ H2 ⟨rfl, h2⟩
  rw [if_pos rfl, List.nil_append] at h2
  refine ⟨_, rfl, (tick_ok h2).mono ?_⟩
  have hm1 : maxI 1 0 = 1 := rfl
  rw [hm1]
  rintro v H3 (⟨e, _⟩ | ⟨_, h3, b, m, c, rfl, hl⟩)
  · simp at e
  rw [again_two _ (by omega)] at hl
  have hm := hl.len
  simp only [List.length_singleton] at hm
  subst hm
  refine ⟨b, 1, c, false, rfl, (tick_ok h3).mono ?_⟩
  rintro v H4 (⟨_, rfl, h4, s4⟩ | ⟨e, _⟩)
  · have hl4 := hl.mono s4
    refine ⟨none, 0, 0, true, rfl, fun _ => (all_ok h4).mono ?_, fun e => by simp at e⟩
    rintro _ H5 ⟨rfl, s5⟩
    have hl5 := hl4.mono s5
    have h5 := h4.mono s5
    refine ⟨_, rfl, fun _ => ⟨fun _ => ⟨hl5.ob (i := 0) (by omega) (by omega), ⟨hl5.elem_ne (i := 0) (by omega) (by omega)⟩, 1, fld_to (hl5.at (i := 0) (by omega) rfl), fun _ => ⟨fun _ => ⟨fun _ => (got_ok h5 (by simp)).mono ?_, fun e => by simp at e⟩, fun e => by simp at e⟩, fun e => by simp at e⟩, fun e => by simp at e⟩, fun e => by simp [allB, mlook] at e⟩
    rintro _ H6 ⟨b6, n6, c6, K, rfl, hK, hrd, s6⟩
    have := hrd.len
    rw [one_key hK] at this
    simp only [List.map_cons, List.map_nil, List.length_singleton] at this
    subst this
    refine ⟨b6, 1, c6, rfl, rfl, s0.trans (sF.trans (h5.sub.trans s6))⟩
  · exact absurd (by rfl) e
end Go.Rnd
