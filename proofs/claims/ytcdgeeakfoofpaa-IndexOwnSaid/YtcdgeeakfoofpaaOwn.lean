/- What the law IndexOwn tells: true. -/
import Derived.Test.YtcdgeeakfoofpaaPlays
namespace Go.Idx
open Go.Vx Go.Vc Go.Proofs Go.Txt

theorem put_nil (H : PHeap) (e : En) : Triple Try.prog 9 #[.pointer none, .agg (eE e).toArray] H fun v H' => v = .tuple #[wasV [], .bool false] ∧ Sub H H' := by
  obtain ⟨s, r, a, m⟩ := e
  refine putI.vc none s r a m H _ ((place_nil s r).mono ?_)
  rintro _ H1 ⟨rfl, hs⟩
  exact ⟨_, _, rfl, fun _ => ⟨rfl, hs⟩, fun h => by simp at h⟩
theorem drop_nil (H : PHeap) (s : ByteArray) (r : Int) : Triple Try.prog 11 #[.pointer none, .agg #[.string s, .int .i64 r]] H fun v H' => v = .tuple #[wasV [], .bool false] ∧ Sub H H' := by
  refine dropI.vc none s r H _ ((place_nil s r).mono ?_)
  rintro _ H1 ⟨rfl, hs⟩
  exact ⟨_, _, rfl, fun _ => ⟨rfl, hs⟩, fun h => by simp at h⟩
theorem find_nil (H : PHeap) (s : ByteArray) (r : Int) : Triple Try.prog 13 #[.pointer none, .agg #[.string s, .int .i64 r]] H fun v H' => v = .tuple #[wasV [], .bool false] ∧ Sub H H' := by
  refine findI.vc none s r H _ ((place_nil s r).mono ?_)
  rintro _ H1 ⟨rfl, hs⟩
  exact ⟨_, _, rfl, fun _ => ⟨rfl, hs⟩, fun h => by simp at h⟩
theorem own_ok (H : PHeap) (a b : En) : Triple Try.prog 4 #[.agg (eE a).toArray, .agg (eE b).toArray] H fun v H' => v = .bool true ∧ Sub H H' := by
  refine lawOwn.vc a.1 a.2.1 a.2.2.1 a.2.2.2 b.1 b.2.1 b.2.2.1 b.2.2.2 H _ ((new_ok H).mono ?_)
  rintro _ H1 ⟨k, rfl, hx1⟩
  refine ⟨at0 k, rfl, (as_ok a).use ⟨_, _, _, _, rfl, ?_⟩⟩
  have c1 : Cut [] (key a) [] [] [] := ⟨rfl, by simp, .inl rfl, by simp⟩
  refine (put_ok hx1 (by simp) c1).mono ?_
  rintro _ H2 ⟨rfl, hx2⟩
  refine ⟨_, _, _, _, _, rfl, (all_ok hx2 (by simp)).mono ?_⟩
  rintro _ H3 ⟨bw, nw, cw, rfl, gw, sw, _⟩
  have hx3 := hx2.mono sw
  refine ⟨bw, nw, cw, rfl, (all_ok hx3 (by simp)).mono ?_⟩
  rintro _ H4 ⟨bl, nl, cl, rfl, gl, sl, ol⟩
  have hrl := gl.rd (E := eE) (sz := 4) (by omega) eLen
  have hnl : nl = 1 := by simpa using hrl.len.symm
  subst hnl
  have rl0 : Reads H4 (elemA bl 0 4) (eE a) := hrl.at (i := 0) (by omega) rfl
  have obl : Ob (bl ≠ none ∧ (0 : Int) ≤ 0 ∧ 0 < ((1 : Nat) : Int)) := hrl.ob (by omega) (by omega)
  have nel : Ob (elemA bl 0 4 ≠ none) := ⟨hrl.elem_ne (i := 0) (by omega) (by omega)⟩
  obtain ⟨H5, hw, g5, hf5⟩ := Owns.set eLen gl (by omega) (i := 0) (by omega) (by omega) ((a.1, a.2.1, IntKind.i64.wrap (a.2.2.1 + 1), a.2.2.2) : En)
  have hw' := Writes.part (A := [.string a.1, .int .i64 a.2.1]) (l2 := [.int .i64 (IntKind.i64.wrap (a.2.2.1 + 1))]) (B := [.int .i64 a.2.2.2]) (old := [.int .i64 a.2.2.1]) hw rl0 rfl
  have s35 : Sub H3 H5 := hf5.sub sl ol
  have hx5 := hx3.mono s35
  refine ⟨bl, 1, cl, rfl, fun h => by simp at h, fun _ => ⟨obl, nel, a.2.2.1, rl0.fld 2 (fun j v hv => ?_), obl, nel, H5, hw', (copy_ok hx5 (by simp)).mono ?_⟩⟩
  · match j, hv with
    | 0, hv => simpa [eE, pairE, strE, intE] using hv
    | j + 1, hv => simp at hv
  rintro _ H6 ⟨k', rfl, s6, hk', by1, ny, cy, hby, hoy, hofy, hney⟩
  have hy6 : Ix H5 H6 k' [a] := ⟨s6, hk', by simp [Sorted], by1, ny, cy, hby, hoy, hney, hofy⟩
  refine ⟨at0 k', rfl, (as_ok b).use ⟨_, _, _, _, rfl, ?_⟩⟩
  obtain ⟨A, M, B, c⟩ := cut_ex (key b) hy6.srt
  have hlc := c.len
  simp only [List.length_singleton] at hlc
  refine (put_ok hy6 (by simp) c).mono ?_
  rintro _ H7 ⟨rfl, hy7⟩
  refine ⟨_, _, _, _, _, rfl, (as_ok a).use ⟨_, _, _, _, rfl, ?_⟩⟩
  obtain ⟨A2, M2, B2, c2⟩ := cut_ex (key a) hy7.srt
  refine (drop_ok hy7 (by simp only [List.length_append, List.length_cons]; omega) c2).mono ?_
  rintro _ H8 ⟨rfl, hy8⟩
  refine ⟨_, _, _, _, _, rfl, (as_ok a).use ⟨_, _, _, _, rfl, ?_⟩⟩
  refine (put_nil H8 a).mono ?_
  rintro _ H9 ⟨rfl, s9⟩
  refine ⟨_, _, _, _, _, rfl, (as_ok a).use ⟨_, _, _, _, rfl, (drop_nil H9 a.1 a.2.1).mono ?_⟩⟩
  rintro _ H10 ⟨rfl, s10⟩
  refine ⟨_, _, _, _, _, rfl, (as_ok a).use ⟨_, _, _, _, rfl, (find_nil H10 a.1 a.2.1).mono ?_⟩⟩
  rintro _ H11 ⟨rfl, s11⟩
  have s511 : Sub H5 H11 := hy8.sub.trans (s9.trans (s10.trans s11))
  have hx11 := hx5.mono s511
  refine ⟨_, _, _, _, _, rfl, (all_ok hx11 (by simp)).mono ?_⟩
  rintro _ H12 ⟨bn, nn, cn, rfl, gn, sn, _⟩
  have hrn := gn.rd (E := eE) (sz := 4) (by omega) eLen
  have hnn : nn = 1 := by simpa using hrn.len.symm
  subst hnn
  have hrw := ((gw.rd (E := eE) (sz := 4) (by omega) eLen).mono (s35.trans (s511.trans sn)))
  have hnw : nw = 1 := by simpa using hrw.len.symm
  subst hnw
  have s0 : Sub H H12 := hx11.sub.trans sn
  refine ⟨bn, 1, cn, rfl, H12, Sub.refl _, fun _ => ⟨hrn.ob (by omega) (by omega), a.1, a.2.1, a.2.2.1, a.2.2.2, hrn.at (i := 0) (by omega) rfl, hrw.ob (by omega) (by omega), a.1, a.2.1, a.2.2.1, a.2.2.2, hrw.at (i := 0) (by omega) rfl, fun _ => ⟨fun _ => ⟨fun _ => ⟨fun _ => ?_, fun h => by simp at h⟩, fun h => by simp at h⟩, fun h => by simp at h⟩, fun h => ?_⟩, fun h => by simp at h⟩
  · refine (all_nil H12).mono ?_
    rintro _ _ ⟨rfl, rfl⟩
    refine ⟨_, _, _, rfl, (names_nil _).mono ?_⟩
    rintro _ H13 ⟨b13, n13, c13, rfl, hn13⟩
    have : n13 = 0 := by simpa using hn13.len.symm
    subst this
    refine ⟨_, _, _, rfl, fun _ => (copy_nil _).mono ?_, fun h => ?_⟩
    · rintro _ _ ⟨rfl, rfl⟩
      refine ⟨_, rfl, fun _ => (alive_ok _).mono ?_, fun h => by simp at h⟩
      rintro _ H14 ⟨rfl, s14⟩
      exact ⟨true, rfl, rfl, s0.trans (hn13.sub.trans s14)⟩
    · rw [show IntKind.i64.wrap (((0 : Nat) : Int) + ((0 : Nat) : Int)) = 0 by kernel_rfl] at h
      simp at h
  · have := eq_self a.1 a.2.1 a.2.2.1 a.2.2.2
    rw [h] at this
    simp at this
end Go.Idx
