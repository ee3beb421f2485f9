/- Gathering: the reference. -/
import Derived.Test.YtcdgeeakfoofpabGatD
namespace Go.Gat
open Go.Vx Go.Vc Go.Proofs Go.Pak

section
variable {H : PHeap} {k : Nat} {t : TypeId} {a b c d : Value}
theorem _root_.Go.Vx.Bx.q0 (h : Bx H k t [a, b, c, d]) : Reads H (fldA (at0 k) 0) [a] := h.readsAt 0 fun j v hv => by
  match j, hv with
  | 0, hv => simpa using hv
  | j + 1, hv => simp at hv
theorem _root_.Go.Vx.Bx.q1 (h : Bx H k t [a, b, c, d]) : Reads H (fldA (at0 k) 1) [b] := h.readsAt 1 fun j v hv => by
  match j, hv with
  | 0, hv => simpa using hv
  | j + 1, hv => simp at hv
theorem _root_.Go.Vx.Bx.q2 (h : Bx H k t [a, b, c, d]) : Reads H (fldA (at0 k) 2) [c] := h.readsAt 2 fun j v hv => by
  match j, hv with
  | 0, hv => simpa using hv
  | j + 1, hv => simp at hv
theorem _root_.Go.Vx.Bx.q3 (h : Bx H k t [a, b, c, d]) : Reads H (fldA (at0 k) 3) [d] := h.readsAt 3 fun j v hv => by
  match j, hv with
  | 0, hv => simpa using hv
  | j + 1, hv => simp at hv
theorem _root_.Go.Vx.Bx.x0 (h : Bx H k t [a, b, c, d]) (x : Value) : Writes H (H.upd k (.cells [x, b, c, d].toArray t (0, 0))) (fldA (at0 k) 0) [x] :=
  (h.writes [x, b, c, d] rfl).part (A := []) (l2 := [x]) (B := [b, c, d]) (old := [a]) h.reads rfl
theorem _root_.Go.Vx.Bx.x1 (h : Bx H k t [a, b, c, d]) (x : Value) : Writes H (H.upd k (.cells [a, x, c, d].toArray t (0, 0))) (fldA (at0 k) 1) [x] :=
  (h.writes [a, x, c, d] rfl).part (A := [a]) (l2 := [x]) (B := [c, d]) (old := [b]) h.reads rfl
theorem _root_.Go.Vx.Bx.x2 (h : Bx H k t [a, b, c, d]) (x : Value) : Writes H (H.upd k (.cells [a, b, x, d].toArray t (0, 0))) (fldA (at0 k) 2) [x] :=
  (h.writes [a, b, x, d] rfl).part (A := [a, b]) (l2 := [x]) (B := [d]) (old := [c]) h.reads rfl
theorem _root_.Go.Vx.Bx.x3 (h : Bx H k t [a, b, c, d]) (x : Value) : Writes H (H.upd k (.cells [a, b, c, x].toArray t (0, 0))) (fldA (at0 k) 3) [x] :=
  (h.writes [a, b, c, x] rfl).part (A := [a, b, c]) (l2 := [x]) (B := []) (old := [d]) h.reads rfl
end
abbrev Rising (P : List (Int × BS)) : Prop := P.Pairwise fun x y => x.1 < y.1
theorem Rising.nodup {P : List (Int × BS)} (h : Rising P) : (P.map (·.1)).Nodup := by
  rw [List.Nodup, List.pairwise_map]
  exact h.imp fun h => by omega
/-- The block m holds a reference, apart from F, which holds what it reads. -/
structure RfS (F H : PHeap) (m : Nat) (kn : Bool) (who : List Int) (P : List (Int × BS)) : Prop where
  sub : Sub F H
  off : F m = none
  row : ∃ oa n c ob q d oc r e, Bx H m 31 [.bool kn, .slice oa n c, .slice ob q d, .slice oc r e] ∧ RdL F iE 1 oa n who ∧ n ≤ 100 ∧ RdL F iE 1 ob q (P.map (·.1)) ∧ RdL F sE 1 oc r (P.map (·.2)) ∧ q ≤ 100
  ok : ∀ x ∈ P, OkB F x.2
  rise : Rising P
theorem RfS.mono {F H H' : PHeap} {m : Nat} {kn : Bool} {who : List Int} {P : List (Int × BS)} (h : RfS F H m kn who P) (hs : Sub H H') : RfS F H' m kn who P := by
  obtain ⟨oa, n, c, ob, q, d, oc, r, e, h1, h2⟩ := h.row
  exact ⟨h.sub.trans hs, h.off, ⟨oa, n, c, ob, q, d, oc, r, e, h1.sub hs, h2⟩, h.ok, h.rise⟩
theorem RfS.new {F H : PHeap} (hs : Sub F H) {m : Nat} (hm : H m = none) : RfS F (H.upd m (.cells #[.bool false, .slice none 0 0, .slice none 0 0, .slice none 0 0] 31)) m false [] [] := by
  refine ⟨hs.trans (Sub.upd _ hm), ?_, ⟨none, 0, 0, none, 0, 0, none, 0, 0, Bx.new H m _ _, RdL.nil _ _ _, by omega, RdL.nil _ _ _, RdL.nil _ _ _, by omega⟩, by simp, List.Pairwise.nil⟩
  cases hh : F m with
  | none => rfl
  | some o => rw [hs.le _ _ hh] at hm; cases hm
section
variable {F H : PHeap} {m : Nat} {kn : Bool} {who : List Int} {P : List (Int × BS)}
theorem RfS.some_k (h : RfS F H m kn who P) : ∃ o, H m = some o := by
  obtain ⟨oa, n, c, ob, q, d, oc, r, e, h1, h2⟩ := h.row
  exact ⟨_, h1⟩
theorem place_ok (h : RfS F H m kn who P) (i : Int) :
    Triple Try.prog 20 #[.pointer (at0 m), .int .i64 i] H fun v H' => H' = H ∧ ((∃ (j : Nat) (x : Int × BS), v = .int .i64 j ∧ P[j]? = some x ∧ x.1 = i ∧ mlook P i = some x.2) ∨ (v = .int .i64 (-1) ∧ mlook P i = none)) := by
  obtain ⟨oa, n, c, ob, q, d, oc, r, e, h1, h2, h3, h4, h5, h6⟩ := h.row
  have h4' := h4.mono h.sub
  have hq := h4.len
  rw [List.length_map] at hq
  refine rPlace.vc (at0 m) i H _ ⟨fun t H' => match t with | [.int _ j] => 0 ≤ j ∧ j ≤ q ∧ H' = H ∧ (∀ x ∈ P.take j.toNat, x.1 ≠ i) | _ => False, fun t _ => match t with | [.int _ j] => (q - j).toNat | _ => 0, ⟨by omega, by omega, rfl, by simp⟩, ?_⟩
  rintro j H1 ⟨j0, j1, rfl, hno⟩
  obtain ⟨j, rfl⟩ : ∃ z : Nat, j = z := ⟨j.toNat, by omega⟩
  rw [Int.toNat_natCast] at hno
  refine ⟨neP m, neP m, ob, q, d, h1.q2, fun hj => ?_, fun hj => ?_⟩
  · have hj' : j < q := by simpa using hj
    obtain ⟨y, hy, hyr⟩ := h4'.ex (i := (j : Int)) (by omega) (by omega)
    rw [Int.toNat_natCast, List.getElem?_map] at hy
    obtain ⟨x, hx, rfl⟩ := Option.map_eq_some_iff.1 hy
    refine ⟨neP m, neP m, ob, q, d, h1.q2, h4'.ob (by omega) (by omega), x.1, hyr, fun he => ?_, fun he => ?_⟩
    · have he' : x.1 = i := by simpa using he
      subst he'
      exact ⟨rfl, .inl ⟨j, x, rfl, hx, rfl, mlook_of h.rise.nodup (List.mem_of_getElem? hx)⟩⟩
    · have he' : x.1 ≠ i := by simpa using he
      rw [wrapS (by omega) (by omega)]
      refine ⟨⟨by omega, by omega, rfl, ?_⟩, ⟨by simp only; omega⟩⟩
      rw [show ((j : Int) + 1).toNat = j + 1 by omega, List.take_add_one, hx]
      intro z hz
      rcases List.mem_append.1 hz with hz | hz
      · exact hno z hz
      · simp at hz; subst hz; exact he'
  · have hj' : ¬ j < q := by simpa using hj
    rw [List.take_of_length_le (by omega)] at hno
    exact ⟨rfl, .inr ⟨rfl, mlook_none.2 hno⟩⟩
theorem rKnow_ok {l : List Int} {oa : Option Addr} {n c : Nat} (h : RfS F H m kn who P) (hl : RdL F iE 1 oa n l) (hn : n ≤ 100) :
    Triple Try.prog 9 #[.pointer (at0 m), .slice oa n c] H fun v H' => v = .bool (!kn) ∧ ∃ F', Keep m none none F F' H H' ∧ RfS F' H' m true (if kn then who else l) P := by
  obtain ⟨oa1, n1, c1, ob, q, d, oc, r, e, h1, h2, h3, h4, h5, h6⟩ := h.row
  refine rKnow.vc (at0 m) oa n c H _ ⟨neP m, neP m, kn, h1.q0, fun e => ?_, fun e => ?_⟩
  · subst e
    exact ⟨rfl, F, Keep.refl .., h⟩
  · subst e
    refine ⟨neP m, neP m, _, h1.x0 (.bool true), ?_⟩
    have b1 := Bx.new H m 31 [.bool true, .slice oa1 n1 c1, .slice ob q d, .slice oc r e]
    have hsF : Sub F (H.upd m (.cells [.bool true, .slice oa1 n1 c1, .slice ob q d, .slice oc r e].toArray 31 (0, 0))) := Bx.sub_of h.sub h.off
    have hdom : ∀ q', (H.upd m (.cells [.bool true, .slice oa1 n1 c1, .slice ob q d, .slice oc r e].toArray 31 (0, 0))) q' = none → H q' = none := fun q' hq' => by
      by_cases e : q' = m
      · subst e; rw [upd_eq] at hq'; cases hq'
      · rwa [Vx.upd_ne _ _ e] at hq'
    have hkeep : ∀ q' o, H q' = some o → q' ≠ m → (H.upd m (.cells [.bool true, .slice oa1 n1 c1, .slice ob q d, .slice oc r e].toArray 31 (0, 0))) q' = some o := fun q' o hq' hne => by rw [Vx.upd_ne _ _ hne]; exact hq'
    generalize H.upd m (.cells [.bool true, .slice oa1 n1 c1, .slice ob q d, .slice oc r e].toArray 31 (0, 0)) = H1 at *
    intro k4 hk4
    have hsk := Sub.upd (.cells #[] 3 (0, 0)) hk4
    refine append_rd tI (E := iE) (l := []) iLen (Owns.empty H1 k4 _ 1) ((hl.mono hsF).mono hsk) iOne (by simp [maxLen]; omega) (by omega) ?_
    intro b k H2 how hf hfr
    rw [List.nil_append] at how
    rw [Nat.zero_add] at how ⊢
    have g2 : Sub H1 H2 := hf.sub hsk (off_at0 hk4)
    have g3 : Off H1 b := hfr.off hsk (off_at0 hk4)
    have hmF : grow F H1 H2 m = none := grow_off b1 h.off
    refine ⟨b, n, k, rfl, neP m, neP m, _, (b1.sub g2).x1 (.slice b n k), rfl, grow F H1 H2, ⟨grow_le hsF, fun q' o hq' => ?_, fun q' o hq' hne _ => ?_, fun q' hq' => ?_, fun _ e => by cases e⟩, ?_⟩
    · rcases grow_new hq' with hh | hh
      · exact .inl hh
      · exact .inr (hdom _ hh)
    · rw [Vx.upd_ne _ _ hne]; exact g2.le _ _ (hkeep _ _ hq' hne)
    · by_cases e : q' = m
      · subst e; rw [upd_eq] at hq'; cases hq'
      · rw [Vx.upd_ne _ _ e] at hq'
        refine hdom _ ?_
        cases hh : H1 q' with
        | none => rfl
        | some o => rw [g2.le _ _ hh] at hq'; cases hq'
    · exact ⟨Bx.sub_of (grow_sub hsF g2) hmF, hmF, ⟨b, n, k, ob, q, d, oc, r, e, Bx.new _ m _ _, (grow_own how g3).rd (E := iE) (sz := 1) (by omega) iLen, hn, h4.mono (grow_le hsF), h5.mono (grow_le hsF), h6⟩, fun x hx => (h.ok x hx).mono (grow_le hsF), h.rise⟩

/-! ### Take -/
/-- Two lists that grow. -/
structure Two (H0 H : PHeap) (a : Option Addr) (n c : Nat) (A : List Int) (b : Option Addr) (q d : Nat) (B : List BS) : Prop where
  sub : Sub H0 H
  own1 : OwnL H 3 iE 1 a n c A
  own2 : OwnL H 32 sE 1 b q d B
  off1 : Off H0 a
  off2 : Off H0 b
  apart : ∀ p p', a = some p → b = some p' → p.block ≠ p'.block
theorem Two.first {H0 : PHeap} {a : Option Addr} {n c : Nat} {A : List Int} {b : Option Addr} {q d : Nat} {B : List BS} (h : Two H0 H a n c A b q d B) {y : Int} {k : Nat} (hk : H k = none) (hn : n ≤ 1000) {K : Value → PHeap → Prop}
    (hK : ∀ a' c' H', Two H0 H' a' (n + 1) c' (A ++ [y]) b q d B → K (.slice a' (n + 1) c') H') :
    EvV Try.prog (Builtin.append_ #[24, 24] 24 #[.slice a n c, .slice (at0 k) 1 1]) (H.upd k (.cells #[.int .i64 y] 3)) K := by
  refine append_one tI hk (E := iE) (x := y) iLen h.own1 rfl (iOne y) (by simp [maxLen]; omega) (by omega) ?_
  intro a5 c5 H5 g5 hf5 hfr5 _
  refine hK _ _ _ ⟨hf5.sub h.sub h.off1, g5, Owns.mono h.own2 fun x o hx ho => hf5 _ _ ho fun a' ha' e => h.apart a' x ha' hx e.symm, hfr5.off h.sub h.off1, h.off2, fun p p' hp hp' => ?_⟩
  rcases hfr5 p hp with ⟨a', ha', e1⟩ | hno
  · rw [← e1]; exact h.apart a' p' ha' hp'
  · intro e1
    have ho := h.own2
    rw [hp'] at ho
    obtain ⟨o, ho⟩ := ho.blk
    rw [← e1, hno] at ho; cases ho
theorem Two.second {H0 : PHeap} {a : Option Addr} {n c : Nat} {A : List Int} {b : Option Addr} {q d : Nat} {B : List BS} (h : Two H0 H a n c A b q d B) {s : BS} {k : Nat} (hk : H k = none) (hn : q ≤ 1000) {K : Value → PHeap → Prop}
    (hK : ∀ b' d' H', Two H0 H' a n c A b' (q + 1) d' (B ++ [s]) → K (.slice b' (q + 1) d') H') :
    EvV Try.prog (Builtin.append_ #[29, 29] 29 #[.slice b q d, .slice (at0 k) 1 1]) (H.upd k (.cells #[.slice s.oa s.n s.c] 32)) K := by
  refine append_one tS hk (E := sE) (x := s) sLen h.own2 rfl (sOne s) (by simp [maxLen]; omega) (by omega) ?_
  intro a5 c5 H5 g5 hf5 hfr5 _
  refine hK _ _ _ ⟨hf5.sub h.sub h.off2, Owns.mono h.own1 fun x o hx ho => hf5 _ _ ho fun a' ha' e => h.apart x a' hx ha' e, g5, h.off1, hfr5.off h.sub h.off2, fun p p' hp hp' => ?_⟩
  rcases hfr5 p' hp' with ⟨a', ha', e1⟩ | hno
  · rw [← e1]; exact h.apart p a' hp ha'
  · intro e1
    have ho := h.own1
    rw [hp] at ho
    obtain ⟨o, ho⟩ := ho.blk
    rw [e1, hno] at ho; cases ho
/-- Laid in ahead of the first greater one. -/
def Ins (P : List (Int × BS)) (e : Int × BS) (A : List (Int × BS)) : Prop := ∃ A0 B0, P = A0 ++ B0 ∧ A = A0 ++ e :: B0 ∧ (∀ x ∈ A0, x.1 ≤ e.1) ∧ ∀ x, B0.head? = some x → e.1 < x.1
theorem Ins.rise {P A : List (Int × BS)} {e : Int × BS} (h : Ins P e A) (hr : Rising P) (hno : mlook P e.1 = none) : Rising A := by
  obtain ⟨A0, B0, rfl, rfl, h1, h2⟩ := h
  have hne := mlook_none.1 hno
  obtain ⟨r1, r2, r3⟩ := List.pairwise_append.1 hr
  have hB : ∀ x ∈ B0, e.1 < x.1 := by
    intro x hx
    cases B0 with
    | nil => cases hx
    | cons y ys =>
      have hy := h2 y rfl
      rcases List.mem_cons.1 hx with rfl | hx
      · exact hy
      · have := (List.pairwise_cons.1 r2).1 x hx; omega
  refine List.pairwise_append.2 ⟨r1, List.pairwise_cons.2 ⟨hB, r2⟩, fun x hx y hy => ?_⟩
  have hxe := h1 x hx
  have hxn := hne x (List.mem_append_left _ hx)
  rcases List.mem_cons.1 hy with rfl | hy
  · omega
  · exact r3 x hx y hy
theorem Ins.perm {P A : List (Int × BS)} {e : Int × BS} (h : Ins P e A) : A.Perm (P ++ [e]) := by
  obtain ⟨A0, B0, rfl, rfl, _⟩ := h
  exact (List.perm_middle).trans (List.perm_append_singleton _ _).symm
theorem rTake_ok {i : Int} {s : BS} (h : RfS F H m kn who P) (hs : OkB F s) (hP : P.length ≤ 90) :
    Triple Try.prog 7 #[.pointer (at0 m), .int .i64 i, .slice s.oa s.n s.c] H fun v H' => v = .bool (mlook P i).isNone ∧
      ∃ F' P', Keep m none none F F' H H' ∧ RfS F' H' m kn who P' ∧ (if (mlook P i).isSome then P' = P else Ins P (i, s) P') := by
  refine rTake.vc (at0 m) i s.oa s.n s.c H _ ((place_ok h i).mono ?_)
  rintro _ H ⟨rfl, ⟨j, x, rfl, hj, hxi, hml⟩ | ⟨rfl, hml⟩⟩
  · refine ⟨_, rfl, fun _ => ?_, fun e => ?_⟩
    · rw [hml]
      exact ⟨rfl, F, P, Keep.refl .., h, by simp⟩
    · simp at e
  refine ⟨_, rfl, fun e => ?_, fun _ => ?_⟩
  · simp at e
  rw [hml]
  obtain ⟨oa, n, c, ob, q, d, oc, r, e, h1, h2, h3, h4, h5, h6⟩ := h.row
  have hq := h4.len
  have hr := h5.len
  rw [List.length_map] at hq hr
  refine ⟨fun t H' => match t with
    | [.slice a n1 c1, .slice b n2 c2, .bool dn, .int _ z] => 0 ≤ z ∧ z ≤ q ∧ ∃ A : List (Int × BS), Two H H' a n1 c1 (A.map (·.1)) b n2 c2 (A.map (·.2)) ∧ (if dn then (∃ A0 y B0, P.take z.toNat = A0 ++ y :: B0 ∧ A = A0 ++ (i, s) :: y :: B0 ∧ (∀ x ∈ A0, x.1 ≤ i) ∧ i < y.1) else (A = P.take z.toNat ∧ ∀ x ∈ A, x.1 ≤ i))
    | _ => False, fun t _ => match t with | [_, _, _, .int _ z] => (q - z).toNat | _ => 0, ⟨by omega, by omega, [], ⟨Sub.refl _, Owns.nil _ _ 1, Owns.nil _ _ 1, Off.none _, Off.none _, fun _ _ e => by cases e⟩, by simp⟩, ?_⟩
  rintro a n1 c1 b n2 c2 dn z H1 ⟨z0, z1, A, hT, hA⟩
  obtain ⟨z, rfl⟩ : ∃ j : Nat, z = j := ⟨z.toNat, by omega⟩
  rw [Int.toNat_natCast] at hA
  have hn1 := (hT.own1.rd (E := iE) (sz := 1) (by omega) iLen).len
  have hn2 := (hT.own2.rd (E := sE) (sz := 1) (by omega) sLen).len
  rw [List.length_map] at hn1 hn2
  have hAl : A.length ≤ z + 1 := by
    cases dn with
    | true =>
      obtain ⟨A0, y, B0, e1, e2, _⟩ : ∃ A0 y B0, P.take z = A0 ++ y :: B0 ∧ A = A0 ++ (i, s) :: y :: B0 ∧ (∀ x ∈ A0, x.1 ≤ i) ∧ i < y.1 := hA
      have := congrArg List.length e1
      rw [e2]
      simp only [List.length_append, List.length_cons, List.length_take] at this ⊢
      omega
    | false =>
      have : A = P.take z := hA.1
      rw [this, List.length_take]; omega
  have R : ∀ {G : PHeap}, Sub H G → Reads G (fldA (at0 m) 2) [.slice ob q d] ∧ Reads G (fldA (at0 m) 3) [.slice oc r e] ∧ RdL G iE 1 ob q (P.map (·.1)) ∧ RdL G sE 1 oc r (P.map (·.2)) :=
    fun hs => ⟨(h1.sub hs).q2, (h1.sub hs).q3, h4.mono (h.sub.trans hs), h5.mono (h.sub.trans hs)⟩
  obtain ⟨R2, R3, D1, D2⟩ := R hT.sub
  refine ⟨neP m, neP m, ob, q, d, R2, fun hz => ?_, fun hz => ?_⟩
  · have hz' : z < q := by simpa using hz
    have hPz : P[z]? = some (P[z]'(by omega)) := List.getElem?_eq_getElem (by omega)
    generalize P[z]'(by omega) = x at hPz
    have hy1 : (P.map (·.1))[(z : Int).toNat]? = some x.1 := by rw [Int.toNat_natCast, List.getElem?_map, hPz]; rfl
    have hy2 : (P.map (·.2))[(z : Int).toNat]? = some x.2 := by rw [Int.toNat_natCast, List.getElem?_map, hPz]; rfl
    -- the element itself is laid
    have lay : ∀ {a : Option Addr} {n1 c1 : Nat} {b : Option Addr} {n2 c2 : Nat} {H1 : PHeap} {A : List (Int × BS)} (K : Option Addr → Nat → Nat → Option Addr → Nat → Nat → PHeap → Prop),
        Two H H1 a n1 c1 (A.map (·.1)) b n2 c2 (A.map (·.2)) → n1 ≤ 1000 → n2 ≤ 1000 →
        (∀ a' n1' c1' b' n2' c2' H', Two H H' a' n1' c1' ((A ++ [x]).map (·.1)) b' n2' c2' ((A ++ [x]).map (·.2)) → K a' n1' c1' b' n2' c2' H') →
        ∀ k65, H1 k65 = none → EvV Try.prog (Builtin.append_ #[24, 24] 24 #[.slice a n1 c1, .slice (at0 k65) 1 1]) (H1.upd k65 (.cells #[.int .i64 x.1] 3)) fun v66 H67 =>
          ∃ a68 k69 k70, v66 = .slice a68 k69 k70 ∧ Ob (at0 m ≠ none) ∧ Ob (at0 m ≠ none) ∧ ∃ a71 k72 k73, Reads H67 (fldA (at0 m) 3) [.slice a71 k72 k73] ∧ Ob (a71 ≠ none ∧ 0 ≤ (z : Int) ∧ (z : Int) < (k72 : Int)) ∧
          ∃ a74 k75 k76, Reads H67 (elemA a71 z 1) [.slice a74 k75 k76] ∧ ∀ k77, H67 k77 = none → EvV Try.prog (Builtin.append_ #[29, 29] 29 #[.slice b n2 c2, .slice (at0 k77) 1 1]) (H67.upd k77 (.cells #[.slice a74 k75 k76] 32)) fun v78 H79 =>
          ∃ a80 k81 k82, v78 = .slice a80 k81 k82 ∧ K a68 k69 k70 a80 k81 k82 H79 := by
      intro a n1 c1 b n2 c2 H1 A K hT hn1 hn2 hK k65 hk65
      refine hT.first hk65 (by omega) fun a' c' H' hT' => ?_
      obtain ⟨R2, R3, D1, D2⟩ := R hT'.sub
      refine ⟨a', _, c', rfl, neP m, neP m, oc, r, e, R3, D2.ob (by omega) (by omega), x.2.oa, x.2.n, x.2.c, D2.at (by omega) hy2, fun k77 hk77 => ?_⟩
      refine hT'.second (s := x.2) hk77 (by omega) fun b' d' H'' hT'' => ?_
      refine ⟨b', _, d', rfl, hK _ _ _ _ _ _ _ ?_⟩
      simpa using hT''
    have htk : P.take (z + 1) = P.take z ++ [x] := by rw [List.take_add_one, hPz]; rfl
    have ez : IntKind.i64.wrap ((z : Int) + 1) = (z : Int) + 1 := wrapS (by omega) (by omega)
    have ez2 : ((z : Int) + 1).toNat = z + 1 := by omega
    refine ⟨fun hd => ?_, fun hd => ?_⟩
    · have hd' : dn = false := by simpa using hd
      subst hd'
      obtain ⟨rfl, hle⟩ : A = P.take z ∧ ∀ x ∈ A, x.1 ≤ i := hA
      refine ⟨neP m, neP m, ob, q, d, R2, D1.ob (by omega) (by omega), x.1, D1.at (by omega) hy1, fun hlt => ?_, fun hlt => ?_⟩
      · have hlt' : i < x.1 := by simpa using hlt
        intro k27 hk27
        refine hT.first hk27 (by omega) fun a' c' H' hT' => ⟨a', _, c', rfl, fun k33 hk33 => hT'.second (s := s) hk33 (by omega) fun b' d' H'' hT'' => ⟨b', _, d', rfl, ?_⟩⟩
        obtain ⟨R2, R3, D1, D2⟩ := R hT''.sub
        have hT3 : Two H H'' a' (n1 + 1) c' ((P.take z ++ [(i, s)]).map (·.1)) b' (n2 + 1) d' ((P.take z ++ [(i, s)]).map (·.2)) := by simpa using hT''
        refine ⟨neP m, neP m, ob, q, d, R2, D1.ob (by omega) (by omega), x.1, D1.at (by omega) hy1, lay _ hT3 (by omega) (by omega) fun a1 m1 c1 b1 m2 c2 H4 hT4 => ?_⟩
        rw [ez]
        refine ⟨⟨by omega, by omega, _, hT4, ?_⟩, ⟨by simp only; omega⟩⟩
        rw [if_pos rfl, ez2, htk]
        exact ⟨P.take z, x, [], rfl, by simp, hle, hlt'⟩
      · have hlt' : ¬ i < x.1 := by simpa using hlt
        refine ⟨neP m, neP m, ob, q, d, R2, D1.ob (by omega) (by omega), x.1, D1.at (by omega) hy1, lay _ hT (by omega) (by omega) fun a1 m1 c1 b1 m2 c2 H4 hT4 => ?_⟩
        rw [ez]
        refine ⟨⟨by omega, by omega, _, hT4, ?_⟩, ⟨by simp only; omega⟩⟩
        rw [if_neg (by simp), ez2, htk]
        refine ⟨rfl, fun y hy => ?_⟩
        rcases List.mem_append.1 hy with hy | hy
        · exact hle y hy
        · simp at hy; subst hy; omega
    · have hd' : dn = true := by simpa using hd
      subst hd'
      obtain ⟨A0, y, B0, e1, e2, h7, h8⟩ : ∃ A0 y B0, P.take z = A0 ++ y :: B0 ∧ A = A0 ++ (i, s) :: y :: B0 ∧ (∀ x ∈ A0, x.1 ≤ i) ∧ i < y.1 := hA
      refine ⟨neP m, neP m, ob, q, d, R2, D1.ob (by omega) (by omega), x.1, D1.at (by omega) hy1, lay _ hT (by omega) (by omega) fun a1 m1 c1 b1 m2 c2 H4 hT4 => ?_⟩
      rw [ez]
      refine ⟨⟨by omega, by omega, _, hT4, ?_⟩, ⟨by simp only; omega⟩⟩
      rw [if_pos rfl, ez2, htk, e1]
      exact ⟨A0, y, B0 ++ [x], by simp, by simp [e2], h7, h8⟩
  · have hz' : ¬ z < q := by simpa using hz
    rw [List.take_of_length_le (by omega)] at hA
    -- what is written in the end
    have fin : ∀ {a : Option Addr} {n1 c1 : Nat} {b : Option Addr} {n2 c2 : Nat} {H1 : PHeap} {A : List (Int × BS)}, Two H H1 a n1 c1 (A.map (·.1)) b n2 c2 (A.map (·.2)) → n1 ≤ 100 → Ins P (i, s) A →
        Ob (at0 m ≠ none) ∧ Ob (at0 m ≠ none) ∧ ∃ H2, Writes H1 H2 (fldA (at0 m) 2) [.slice a n1 c1] ∧ Ob (at0 m ≠ none) ∧ Ob (at0 m ≠ none) ∧ ∃ H3, Writes H2 H3 (fldA (at0 m) 3) [.slice b n2 c2] ∧
          Value.bool true = Value.bool (none : Option BS).isNone ∧ ∃ F' P', Keep m none none F F' H H3 ∧ RfS F' H3 m kn who P' ∧ (if (none : Option BS).isSome then P' = P else Ins P (i, s) P') := by
      intro a n1 c1 b n2 c2 H1 A hT hn1 hI
      have b1 := h1.sub hT.sub
      have b2 := Bx.new H1 m 31 [.bool kn, .slice oa n c, .slice a n1 c1, .slice oc r e]
      have hmF : grow F H H1 m = none := grow_off h1 h.off
      refine ⟨neP m, neP m, _, b1.x2 (.slice a n1 c1), neP m, neP m, _, b2.x3 (.slice b n2 c2), rfl, grow F H H1, A, ⟨grow_le h.sub, fun q' o hq' => grow_new hq', fun q' o hq' hne _ => ?_, fun q' hq' => ?_, fun _ e => by cases e⟩, ?_, by simpa using hI⟩
      · rw [Vx.upd_ne _ _ hne, Vx.upd_ne _ _ hne]; exact hT.sub.le _ _ hq'
      · by_cases e : q' = m
        · subst e; rw [upd_eq] at hq'; cases hq'
        · rw [Vx.upd_ne _ _ e, Vx.upd_ne _ _ e] at hq'
          cases hh : H q' with
          | none => rfl
          | some o => rw [hT.sub.le _ _ hh] at hq'; cases hq'
      · refine ⟨Bx.sub_of (Bx.sub_of (grow_sub h.sub hT.sub) hmF) hmF, hmF, ⟨oa, n, c, a, n1, c1, b, n2, c2, Bx.new _ m _ _, h2.mono (grow_le h.sub), h3, (grow_own hT.own1 hT.off1).rd (E := iE) (sz := 1) (by omega) iLen, (grow_own hT.own2 hT.off2).rd (E := sE) (sz := 1) (by omega) sLen, hn1⟩, fun x hx => ?_, hI.rise h.rise hml⟩
        rcases List.mem_append.1 (hI.perm.mem_iff.1 hx) with hx | hx
        · exact (h.ok x hx).mono (grow_le h.sub)
        · simp at hx; subst hx; exact hs.mono (grow_le h.sub)
    refine ⟨fun hd => ?_, fun hd => ?_⟩
    · have hd' : dn = false := by simpa using hd
      subst hd'
      obtain ⟨rfl, hle⟩ : A = P ∧ ∀ x ∈ A, x.1 ≤ i := hA
      intro k27 hk27
      refine hT.first hk27 (by omega) fun a' c' H' hT' => ⟨a', _, c', rfl, fun k33 hk33 => hT'.second (s := s) hk33 (by omega) fun b' d' H'' hT'' => ⟨b', _, d', rfl, ?_⟩⟩
      have hT3 : Two H H'' a' (n1 + 1) c' ((A ++ [(i, s)]).map (·.1)) b' (n2 + 1) d' ((A ++ [(i, s)]).map (·.2)) := by simpa using hT''
      exact fin hT3 (by omega) ⟨A, [], by simp, rfl, hle, fun x hx => by cases hx⟩
    · have hd' : dn = true := by simpa using hd
      subst hd'
      obtain ⟨A0, y, B0, e1, e2, h7, h8⟩ : ∃ A0 y B0, P = A0 ++ y :: B0 ∧ A = A0 ++ (i, s) :: y :: B0 ∧ (∀ x ∈ A0, x.1 ≤ i) ∧ i < y.1 := hA
      exact fin hT (by omega) ⟨A0, y :: B0, e1, e2, h7, fun x hx => by cases hx; exact h8⟩
end
end Go.Gat
