/- The document's example: the contract. -/
import Derived.Test.YtlhnepjidbofnaaDoorMdlU3
namespace Go.Mdl
open Go.Vx Go.Vc Go.Proofs Go.Txt Go.Lab

theorem evLen (v : EvW) : (evE v).length = 10 := rfl
theorem evOne (v : EvW) : ∀ u ∈ evE v, u.oneCell' = true := fun u hu => by simp [evE, opE, anE] at hu; rcases hu with rfl | rfl | rfl | rfl | rfl | rfl | rfl | rfl | rfl | rfl <;> rfl
theorem tEv : ElemT Tryd.prog 22 31 10 136 := .of (by kernel_rfl)
def z3 : SlV := ⟨none, 0, 0⟩
def putV (k : Nat) : OpV := ⟨1, sa, at0 k, 1, 1⟩
def getV : OpV := ⟨2, sa, none, 0, 0⟩
def op0V : OpV := ⟨0, ⟨#[]⟩, none, 0, 0⟩
def pre5V (k : Nat) : List EvW := [⟨1, 0, 0, putV k, ⟨0, 0, z3, z3⟩⟩, ⟨2, 0, 0, putV k, ⟨0, 0, z3, z3⟩⟩, ⟨3, 0, 0, op0V, ⟨13, 0, z3, z3⟩⟩, ⟨1, 1, 0, getV, ⟨0, 0, z3, z3⟩⟩, ⟨2, 1, 0, getV, ⟨0, 0, z3, z3⟩⟩]
theorem nilR (H : PHeap) : RdL H bE 1 none 0 (bytesL ⟨#[]⟩) := RdL.nil _ _ _
theorem nilS (H : PHeap) : RdL H strE 1 none 0 ([] : List ByteArray) := RdL.nil _ _ _
theorem an0R (H : PHeap) (e : Int) : AnR H ⟨e, 0, z3, z3⟩ ⟨e, 0, ⟨#[]⟩, []⟩ := ⟨rfl, rfl, nilR H, nilS H⟩
theorem putR {H : PHeap} {k : Nat} (h : RdL H bE 1 (at0 k) 1 (bytesL d7)) : OpW H (putV k) putX := ⟨rfl, rfl, h⟩
theorem getR (H : PHeap) : OpW H getV getX := ⟨rfl, rfl, nilR H⟩
theorem op0R (H : PHeap) : OpW H op0V op0 := ⟨rfl, rfl, nilR H⟩
theorem pre_ev {H : PHeap} {k : Nat} (h : RdL H bE 1 (at0 k) 1 (bytesL d7)) : ∀ (i : Nat) (e : EvX), pre5[i]? = some e → ∃ w, (pre5V k)[i]? = some w ∧ EvR H w e
  | 0, e, he => by cases he; exact ⟨_, rfl, rfl, rfl, putR h, an0R H 0, Nat.zero_le _⟩
  | 1, e, he => by cases he; exact ⟨_, rfl, rfl, rfl, putR h, an0R H 0, Nat.zero_le _⟩
  | 2, e, he => by cases he; exact ⟨_, rfl, rfl, rfl, op0R H, an0R H 13, by decide⟩
  | 3, e, he => by cases he; exact ⟨_, rfl, rfl, rfl, getR H, an0R H 0, by decide⟩
  | 4, e, he => by cases he; exact ⟨_, rfl, rfl, rfl, getR H, an0R H 0, by decide⟩
  | i + 5, e, he => by cases he
theorem alive_ok {T : Lib.PrintTabs} {H : PHeap} (hT : Tabs H T) : Triple Tryd.prog 5 #[] H fun v H' => v = .bool true ∧ Sub H H' := by
  refine lAlive.vc H _ fun k1 hk1 k2 hk2 k3 hk3 k4 hk4 => ?_
  have n21 : k2 ≠ k1 := fun e => by rw [e, upd_eq] at hk2; cases hk2
  have n32 : k3 ≠ k2 := fun e => by rw [e, upd_eq] at hk3; cases hk3
  have n31 : k3 ≠ k1 := fun e => by rw [e, Go.Vx.upd_ne _ _ n21.symm, upd_eq] at hk3; cases hk3
  have hs : Sub H (((H.upd k1 (Obj.cells #[Value.int IntKind.u8 7] 5 (0, 0))).upd k2 (Obj.cells ((pre5V k1).flatMap evE).toArray 31 (0, 0))).upd k3 (Obj.cells #[Value.int IntKind.u8 7] 5 (0, 0))) := ((Sub.upd _ hk1).trans (Sub.upd _ hk2)).trans (Sub.upd _ hk3)
  have b3 : Bx (((H.upd k1 (Obj.cells #[Value.int IntKind.u8 7] 5 (0, 0))).upd k2 (Obj.cells ((pre5V k1).flatMap evE).toArray 31 (0, 0))).upd k3 (Obj.cells #[Value.int IntKind.u8 7] 5 (0, 0))) k3 5 [.int .u8 7] := upd_eq ..
  have b2 : Bx (((H.upd k1 (Obj.cells #[Value.int IntKind.u8 7] 5 (0, 0))).upd k2 (Obj.cells ((pre5V k1).flatMap evE).toArray 31 (0, 0))).upd k3 (Obj.cells #[Value.int IntKind.u8 7] 5 (0, 0))) k2 31 ((pre5V k1).flatMap evE) := by
    unfold Bx; rw [Go.Vx.upd_ne _ _ n32.symm]; exact upd_eq ..
  have b1 : Bx (((H.upd k1 (Obj.cells #[Value.int IntKind.u8 7] 5 (0, 0))).upd k2 (Obj.cells ((pre5V k1).flatMap evE).toArray 31 (0, 0))).upd k3 (Obj.cells #[Value.int IntKind.u8 7] 5 (0, 0))) k1 5 [.int .u8 7] := by
    unfold Bx; rw [Go.Vx.upd_ne _ _ n31.symm, Go.Vx.upd_ne _ _ n21.symm]; exact upd_eq ..
  replace hk4 : (((H.upd k1 (Obj.cells #[Value.int IntKind.u8 7] 5 (0, 0))).upd k2 (Obj.cells ((pre5V k1).flatMap evE).toArray 31 (0, 0))).upd k3 (Obj.cells #[Value.int IntKind.u8 7] 5 (0, 0))) k4 = none := hk4
  have hnew := map_new (Sub.refl _) hk4 lB
  generalize hG : (((H.upd k1 (Obj.cells #[Value.int IntKind.u8 7] 5 (0, 0))).upd k2 (Obj.cells ((pre5V k1).flatMap evE).toArray 31 (0, 0))).upd k3 (Obj.cells #[Value.int IntKind.u8 7] 5 (0, 0))) = G at hs b1 b2 b3 hk4 hnew
  have hTG := hT.mono hs
  have d1 : RdL G bE 1 (at0 k1) 1 (bytesL d7) := b1.rd (E := bE) (sz := 1) (fun _ => rfl) (l := [7])
  have d3 : RdL G bE 1 (at0 k3) 1 (bytesL d7) := b3.rd (E := bE) (sz := 1) (fun _ => rfl) (l := [7])
  have hl := b2.rd (E := evE) (sz := 10) evLen (l := pre5V k1)
  have hokB : ∀ i, i ≤ 8 → okR lB i := fun i hi => okR_le (8 - i) (by show i + (8 - i) ≤ 9; omega) (by rw [show i + (8 - i) = 8 by omega]; exact okB)
  refine ⟨fun t H' => match t with | [.int _ i] => 0 ≤ i ∧ i ≤ 5 ∧ RunK G H' k4 lB i.toNat | _ => False, fun t _ => match t with | [.int _ i] => (5 - i).toNat | _ => 0, ⟨by omega, by omega, ⟨⟨none, 0, 0⟩, ?_⟩⟩, ?_⟩
  · rw [← hG] at hnew ⊢; exact hnew
  rintro i H1 ⟨i0, i1, hR⟩
  obtain ⟨i, rfl⟩ : ∃ j : Nat, i = j := ⟨i.toNat, by omega⟩
  rw [Int.toNat_natCast] at hR
  have hsub : Sub G H1 := by obtain ⟨sl, h⟩ := hR.out; exact h.sub
  refine ⟨fun hi => ?_, fun hi => ?_⟩
  · have hi' : i < 5 := by have := of_decide_eq_true hi; omega
    have ew : IntKind.i64.wrap ((i : Int) + 1) = (i : Int) + 1 := wrap64 (by omega) (by omega)
    have ei : ((i : Int) + 1).toNat = i + 1 := by omega
    have he : pre5[i]? = some (pre5[i]'hi') := List.getElem?_eq_getElem hi'
    generalize pre5[i]'hi' = e at he
    obtain ⟨w, hw, hwe⟩ := pre_ev d1 i e he
    have hwr := (hl.mono hsub).at (i := (i : Int)) (by omega) (x := w) (by simpa using hw)
    refine ⟨⟨by simp [at0], by omega, by omega⟩, w.kind, w.id, w.ballot, w.op.k, w.op.s, w.op.a, w.op.n, w.op.c, w.an.e, w.an.size, w.an.d.a, w.an.d.n, w.an.d.c, w.an.n.a, w.an.n.n, w.an.n.c, hwr, (take_at hTG smallB hR (hokB i (by omega)) (p5B i e he) hwe).mono ?_⟩
    rintro _ H2 ⟨b, rfl, hb, hR2⟩
    have bt : b = true := hb.2 (hokB (i + 1) (by omega))
    subst bt
    refine ⟨true, rfl, (fun e => by cases e), fun _ => ?_⟩
    rw [ew]
    exact ⟨⟨by omega, by omega, by rw [ei]; simpa using hR2⟩, ⟨by simp only; omega⟩⟩
  · have : ¬ i < 5 := by have := of_decide_eq_false hi; omega
    have ei : i = 5 := by omega
    subst ei
    obtain ⟨sl, hm⟩ := hR.out
    refine (can_ok hTG hm (smallB.good 5) (smallB.all 5) sa).mono ?_
    rintro _ H2 ⟨u, vs, L, rfl, hru, hst, hcan, _, _, hs2⟩
    have hL : L = [(false, ⟨#[]⟩), (true, d7)] := hcan.uniq can5
    have hun : u.n = 2 := by have h1 := hru.len; have h2 := hst.1; rw [hL] at h2; simp at h2; omega
    have hs02 := hsub.trans hs2
    refine ⟨u.a, u.n, u.c, rfl, H2, Sub.refl _, fun k34 hk34 => ⟨Sub.upd _ hk34, copyK tEv evLen evOne (c := 5) (hl.mono hs02) (show 5 ≤ 100000 by decide) (by omega) hk34 fun a3 c3 H3 how3 hs3 hof3 => ⟨a3, 5, c3, rfl, hs3, fun k40 hk40 => ?_⟩⟩⟩
    refine append_one tEv (E := evE) (x := ⟨3, 1, 0, op0V, ⟨10, 0, z3, z3⟩⟩) hk40 evLen how3 rfl (evOne _) (show 5 + 1 ≤ maxLen by decide) (show (5 + 1) * 136 ≤ 140737488355328 by decide) ?_
    intro a4 c4 H4 how4 hf4 hfr4 _
    have hs4 := hf4.sub hs3 hof3
    have hsG4 := hs02.trans hs4
    have hT4 := hTG.mono hsG4
    have hEv : EvL H4 a4 6 lA := by
      refine ⟨⟨_, how4.rd (E := evE) (sz := 10) (by omega) evLen, rfl, fun j v x hv hx => ?_⟩, fun e he => ?_⟩
      · by_cases hj : j < 5
        · have hv' : (pre5V k1)[j]? = some v := by rw [List.getElem?_append_left hj] at hv; exact hv
          have hx' : pre5[j]? = some x := by unfold lA at hx; rw [List.getElem?_append_left hj] at hx; exact hx
          obtain ⟨w, hw, hwe⟩ := pre_ev d1 j x hx'
          rw [hv'] at hw; cases hw
          exact hwe.mono hsG4
        · have hjl := (List.getElem?_eq_some_iff.1 hx).1
          have hj5 : j = 5 := by have : lA.length = 6 := rfl; omega
          subst hj5
          cases hv; cases hx
          exact ⟨rfl, rfl, op0R H4, an0R H4 10, Nat.zero_le _⟩
      · simp [lA, pre5, noneE] at he
        rcases he with rfl | rfl | rfl | rfl | rfl | rfl <;> exact ⟨by decide, fun s hs => (by cases hs), by decide⟩
    refine ⟨a4, 6, c4, rfl, (mright_ok hT4 hEv smallA).mono ?_⟩
    rintro _ H5 ⟨b5, rfl, hb5, hs5⟩
    have : b5 = true := hb5.2 okA
    subst this
    have hm5 : RunK G H5 k4 lB 5 := ⟨sl, hm.mono ((hs2.trans hs4).trans hs5)⟩
    refine ⟨true, rfl, (take_at (ev := ⟨3, 1, 0, op0V, ⟨0, 0, ⟨at0 k3, 1, 1⟩, z3⟩⟩) hTG smallB hm5 (hokB 5 (by omega)) eB5 ⟨rfl, rfl, op0R G, ⟨rfl, rfl, d3, nilS G⟩, Nat.zero_le _⟩).mono ?_⟩
    rintro _ H6 ⟨b6, rfl, hb6, hm6⟩
    have : b6 = true := hb6.2 (hokB 6 (by omega))
    subst this
    refine ⟨true, rfl, (take_at (ev := ⟨1, 2, 0, getV, ⟨0, 0, z3, z3⟩⟩) hTG smallB hm6 (hokB 6 (by omega)) eB6 ⟨rfl, rfl, getR G, an0R G 0, Nat.zero_le _⟩).mono ?_⟩
    rintro _ H7 ⟨b7, rfl, hb7, hm7⟩
    have : b7 = true := hb7.2 (hokB 7 (by omega))
    subst this
    refine ⟨true, rfl, fun _ => (take_at (ev := ⟨2, 2, 0, getV, ⟨0, 0, z3, z3⟩⟩) hTG smallB hm7 (hokB 7 (by omega)) eB7 ⟨rfl, rfl, getR G, an0R G 0, Nat.zero_le _⟩).mono ?_, fun e => by cases e⟩
    rintro _ H8 ⟨b8, rfl, hb8, hm8⟩
    have : b8 = true := hb8.2 (hokB 8 (by omega))
    subst this
    refine ⟨true, rfl, fun _ => ⟨fun _ => ⟨fun _ => ⟨fun _ => (take_at (ev := ⟨3, 2, 0, op0V, ⟨10, 0, z3, z3⟩⟩) hTG smallB hm8 (hokB 8 (by omega)) eB8 ⟨rfl, rfl, op0R G, an0R G 10, Nat.zero_le _⟩).mono ?_, fun e => by cases e⟩, fun e => by cases e⟩, fun e => by cases e⟩, fun e => by rw [hun] at e; cases e⟩
    rintro _ H9 ⟨b9, rfl, hb9, hm9⟩
    have : b9 = false := by cases b9 with | false => rfl | true => exact (notB (hb9.1 rfl)).elim
    subst this
    obtain ⟨sl9, hm9⟩ := hm9.out
    refine ⟨false, rfl, fun _ => (can_ok hTG hm9 (smallB.good 8) (smallB.all 8) sa).mono ?_, fun e => by cases e⟩
    rintro _ H10 ⟨u9, vs9, L9, rfl, hru9, hst9, hcan9, _, _, hs10⟩
    have hL9 : L9 = [(true, d7)] := hcan9.uniq can8
    have hun9 : u9.n = 1 := by have h1 := hru9.len; have h2 := hst9.1; rw [hL9] at h2; simp at h2; omega
    refine ⟨u9.a, u9.n, u9.c, rfl, by rw [hun9]; rfl, hs.trans (hm9.sub.trans hs10)⟩
end Go.Mdl
