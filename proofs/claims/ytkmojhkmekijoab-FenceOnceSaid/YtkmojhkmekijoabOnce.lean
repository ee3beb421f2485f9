/- What the law FenceOnce tells: true. -/
import Derived.Test.YtkmojhkmekijoabVxS
import Derived.Test.YtkmojhkmekijoabFence
import Derived.Test.YtkmojhkmekijoabVcOnce
namespace Go.Fence
open Go.Vx Go.Vc Go.Proofs

theorem alive_ok : Pure Try.prog 6 #[] (.bool true) := by
  intro H
  refine alive.vc H _ ((hear_ok (0, 0, 0) 5).use ⟨_, _, _, _, rfl, (hear_ok (hear (0, 0, 0) 5).1 4).use ⟨_, _, _, _, rfl, (deal_ok (hear (0, 0, 0) 5).1).use ⟨_, _, _, _, rfl,
    (deal_ok (deal (hear (0, 0, 0) 5).1).1).use ⟨_, _, _, _, rfl, (join_ok (6, 5, 2)).use ⟨_, _, _, _, rfl, vb ?_, rfl⟩⟩⟩⟩⟩)
  decide
theorem ints : ElemT Try.prog 24 3 1 8 := .of (by kernel_rfl)
def Inv (H : PHeap) (n : Nat) : Rl := fun l H' => match l with
  | [.slice oa k c, .int _ i, .agg ⟨[.int _ x, .int _ y, .int _ z]⟩] => ∃ ds : List Int, Sub H H' ∧ OwnL H' 3 (intE .i64) 1 oa k c ds ∧ Off H oa ∧ 0 ≤ i ∧ i ≤ n ∧ (k : Int) ≤ i ∧ right (x, y, z) = true ∧ ∀ d ∈ ds, d ≤ y
  | _ => False
def Mea (n : Nat) : Mu := fun l _ => match l with
  | [_, .int _ i, _] => ((n : Int) - i).toNat
  | _ => 0
theorem tail_ok {H H1 : PHeap} {n : Nat} {oa : Option Addr} {k c : Nat} {i x y z a b d : Int} {ds : List Int} (hs : Sub H H1) (how : OwnL H1 3 (intE .i64) 1 oa k c ds) (hoff : Off H oa) (i0 : 0 ≤ i) (hin : i < n) (ik : (k : Int) ≤ i + 1)
    (hr : right (a, b, d) = true) (hx : x ≤ a) (hy : y ≤ b) (hd : ∀ e ∈ ds, e ≤ b) {oa1 : Option Addr} {k1 c1 : Nat} {H0 : PHeap} :
    Triple Try.prog 5 #[.agg #[.int .i64 a, .int .i64 b, .int .i64 d]] H1 fun v29 H30 =>
      ∃ b31, v29 = Value.bool b31 ∧ ((bif !b31 then true else bif decide (a < x) then true else decide (b < y)) = true → (Value.bool false = .bool true ∧ Sub H H30)) ∧
        ((bif !b31 then true else bif decide (a < x) then true else decide (b < y)) = false →
          Inv H n [.slice oa k c, .int .i64 (i + 1), .agg #[.int .i64 a, .int .i64 b, .int .i64 d]] H30 ∧
          Less (Mea n [.slice oa k c, .int .i64 (i + 1), .agg #[.int .i64 a, .int .i64 b, .int .i64 d]] H30) (Mea n [.slice oa1 k1 c1, .int .i64 i, .agg #[.int .i64 x, .int .i64 y, .int .i64 z]] H0)) := by
  refine (right2_ok (a, b, d)).use ⟨_, rfl, fun h => ?_, fun _ => ⟨⟨ds, hs, how, hoff, by omega, by omega, ik, hr, hd⟩, ⟨by simp only [Mea]; omega⟩⟩⟩
  rw [hr] at h
  simp at h
  omega
theorem right_ge {s : S} (h : right s = true) : s.2.1 ≤ s.1 ∧ 0 ≤ s.2.1 ∧ s.1 ≤ 4294967295 := by
  unfold right blank at h
  simp at h
  omega
theorem once_ok (s : S) {oa : Option Addr} {n c : Nat} {l : List Int} {H : PHeap} (hl : RdL H (intE .i64) 1 oa n l) : Triple Try.prog 3 #[sup s, .slice oa n c] H fun v H' => v = .bool true ∧ Sub H H' := by
  refine once.vc s.1 s.2.1 s.2.2 oa n c H _ ((right2_ok s).use ⟨_, rfl, fun _ => alive_ok.use ⟨_, rfl, rfl, Sub.refl H⟩, fun h => ?_⟩)
  have hn : right s = true ∧ (n : Int) ≤ 100 := by grind
  refine ⟨Inv H n, Mea n, ⟨[], Sub.refl H, Owns.nil _ _ _, Off.none _, by omega, by omega, by omega, hn.1, by simp⟩, ?_⟩
  rintro oa1 k1 c1 i x y z H1 ⟨ds, hs, how, hoff, i0, i1, ik, hr, hd⟩
  refine ⟨fun hi => ?_, fun hi => alive_ok.use ⟨_, rfl, rfl, hs⟩⟩
  have hin : i < n := by simpa using hi
  obtain ⟨m, hm, hrd⟩ := (hl.mono hs).ex i0 hin
  have hw : IntKind.i64.wrap (i + 1) = i + 1 := wrap64 (by omega) (by omega)
  have hge := right_ge hr
  simp only at hge
  rw [hw]
  refine ⟨hl.ob i0 hin, m, hrd, fun _ => (doubt_ok (x, y, z)).use ⟨_, _, _, rfl, ?_⟩, fun _ => ⟨fun _ => (join_ok (x, y, z)).use ⟨_, _, _, _, rfl, fun h1 => ?_, fun h1 => ?_⟩, fun _ => ⟨fun _ => (deal_ok (x, y, z)).use ⟨_, _, _, _, rfl, fun h1 => ?_, fun h1 => ?_⟩, fun _ => (hear_ok (x, y, z) m).use ⟨_, _, _, _, rfl, fun h1 => ?_, fun h1 => ?_⟩⟩⟩⟩
  · have : doubt (x, y, z) = (x, x, 2) := by simp [doubt, hr]
    rw [this]
    exact tail_ok hs how hoff i0 hin (by omega) (by unfold right blank; simp; omega) (by simp) (by simp; omega) (fun e he => by have := hd e he; simp; omega)
  · exfalso
    unfold join deal at h1
    grind
  · have : right (join (x, y, z)).1 = true ∧ x ≤ (join (x, y, z)).1.1 ∧ y ≤ (join (x, y, z)).1.2.1 := by
      unfold join deal
      unfold right blank at *
      grind
    exact tail_ok hs how hoff i0 hin (by omega) this.1 this.2.1 this.2.2 (fun e he => Int.le_trans (hd e he) this.2.2)
  · have hdl : deal (x, y, z) = ((x, x, z), true) ∧ y < x := by unfold deal at *; grind
    rw [hdl.1]
    refine ⟨fun l H2 => match l with | [.int _ j] => H2 = H1 ∧ 0 ≤ j | _ => False, fun l _ => match l with | [.int _ j] => ((k1 : Int) - j).toNat | _ => 0, ⟨rfl, by omega⟩, ?_⟩
    rintro j H2 ⟨rfl, j0⟩
    refine ⟨fun hj => ?_, fun hj k hk => ?_⟩
    · have hjn : j < k1 := by simpa using hj
      have hrd := how.rd Nat.one_pos (fun _ => rfl)
      obtain ⟨e, he, hre⟩ := hrd.ex j0 hjn
      have hwj : IntKind.i64.wrap (j + 1) = j + 1 := wrap64 (by omega) (by omega)
      rw [hwj]
      refine ⟨hrd.ob j0 hjn, e, hre, fun h2 => ?_, fun h2 => ⟨⟨rfl, ?_⟩, ⟨?_⟩⟩⟩
      · have := hd e (List.mem_of_getElem? he)
        simp at h2
        omega
      · omega
      · simp only
        omega
    · refine append_one ints hk (x := x) (fun _ => rfl) how rfl (fun u hu => by simp [intE] at hu; subst hu; rfl) (by simp [maxLen]; omega) (by omega) ?_
      intro oa' c' H' h2 h3 h4 h5
      refine ⟨_, _, _, rfl, tail_ok (h3.sub hs hoff) h2 (h4.off hs hoff) i0 hin (by omega) (by unfold right blank at *; grind) (by simp) (by simp; omega) ?_⟩
      intro e he
      simp at he
      rcases he with he | he
      · have := hd e he; simp; omega
      · simp; omega
  · have : right (deal (x, y, z)).1 = true ∧ x ≤ (deal (x, y, z)).1.1 ∧ y ≤ (deal (x, y, z)).1.2.1 := by unfold deal right blank at *; grind
    exact tail_ok hs how hoff i0 hin (by omega) this.1 this.2.1 this.2.2 (fun e he => Int.le_trans (hd e he) this.2.2)
  · exfalso
    unfold hear at h1
    unfold right blank at *
    grind
  · have : right (hear (x, y, z) m).1 = true ∧ x ≤ (hear (x, y, z) m).1.1 ∧ y ≤ (hear (x, y, z) m).1.2.1 := by unfold hear right blank at *; grind
    exact tail_ok hs how hoff i0 hin (by omega) this.1 this.2.1 this.2.2 (fun e he => Int.le_trans (hd e he) this.2.2)
end Go.Fence
