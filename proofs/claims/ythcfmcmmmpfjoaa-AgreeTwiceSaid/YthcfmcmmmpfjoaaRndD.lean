/- The contract of a round's tick; messages that are the same, or too much. -/
import Derived.Test.YthcfmcmmmpfjoaaRndC
import Derived.Test.YthcfmcmmmpfjoaaVcSame
namespace Go.Rnd
open Go.Vx Go.Vc Go.Proofs

theorem part3 {H : PHeap} {k : Nat} {a b c : Value} {n m : Int} {t : TypeId} (h : Bx H k t [a, b, c, .int .i64 n]) : Writes H (H.upd k (.cells [a, b, c, .int .i64 m].toArray t (0, 0))) (fldA (at0 k) 3) [.int .i64 m] := by
  have := (h.writes [a, b, c, .int .i64 m] rfl).part (A := [a, b, c]) (l2 := [.int .i64 m]) (B := []) (old := [.int .i64 n]) h.reads rfl
  exact this
/-- Who has not answered is asked again. -/
def again (asks : List Msg) (got : List (Int × Msg)) : List Msg := asks.filter fun x => !(mlook got (to_ x)).isSome
theorem tick_ok {F H : PHeap} {k : Nat} {asks : List Msg} {wait : List Int} {got : List (Int × Msg)} {tries : Int} (h : RdS F H k asks wait got tries) :
    Triple Try.prog 23 #[.pointer (at0 k)] H fun v H' =>
      (tries = 0 ∧ v = .tuple #[.slice none 0 0, .bool true] ∧ RdS F H' k asks wait got tries ∧ Sub H H') ∨
      (tries ≠ 0 ∧ RdS F H' k asks wait got (IntKind.i64.wrap (tries - 1)) ∧ ∃ b m c, v = .tuple #[.slice b m c, .bool false] ∧ RdL H' mE 13 b m (again asks got)) := by
  refine tickR.vc (at0 k) H _ fun k2 hk2 => ?_
  have hs2 := Sub.upd (.cells #[.pointer (at0 k)] 63) hk2
  have b2 : Bx (H.upd k2 (.cells #[.pointer (at0 k)] 63)) k2 63 [.pointer (at0 k)] := Bx.new H k2 _ [.pointer (at0 k)]
  have hk2k : k2 ≠ k := fun e => by
    obtain ⟨oa, n, c, ob, m, d, gb, h1, _⟩ := h.row
    unfold Bx at h1
    rw [← e, hk2] at h1; cases h1
  have hFk2 : F k2 = none := by
    cases e : F k2 with
    | none => rfl
    | some o => have := h.sub.le _ _ e; rw [hk2] at this; cases this
  generalize H.upd k2 (.cells #[.pointer (at0 k)] 63) = H2 at *
  have h' := h.mono hs2
  obtain ⟨oa, n, c, ob, m, d, gb, h1, h2, h3, h4, h5, h6, h7, h8⟩ := h'.row
  have r3 : Reads H2 (fldA (at0 k) 3) [.int .i64 tries] := h1.readsAt 3 (fun j v hv => by
    match j, hv with
    | 0, hv => simpa using hv
    | j + 1, hv => simp at hv)
  refine ⟨at0 k, b2.reads, fun _ => ⟨at0 k, b2.reads, neP k, neP k, tries, r3, fun ht => ?_, fun ht => ?_⟩, fun e => by simp [at0] at e⟩
  · exact .inl ⟨by simpa using ht, rfl, h', hs2⟩
  · have ht' : tries ≠ 0 := by simpa using ht
    refine ⟨at0 k, b2.reads, neP k, neP k, tries, r3, neP k, neP k, _, part3 h1 (m := IntKind.i64.wrap (tries - 1)), ?_⟩
    have b3 := b2.upd_ne (.cells [.slice oa n c, .slice ob m d, .map (some gb), .int .i64 (IntKind.i64.wrap (tries - 1))].toArray 88 (0, 0)) hk2k
    have hR : RdS F (H2.upd k (.cells [.slice oa n c, .slice ob m d, .map (some gb), .int .i64 (IntKind.i64.wrap (tries - 1))].toArray 88 (0, 0))) k asks wait got (IntKind.i64.wrap (tries - 1)) :=
      ⟨Bx.sub_of h'.sub h.off, h.off, oa, n, c, ob, m, d, gb, Bx.new _ k _ _, h2, h3, h4.mono fun o ho => by rw [Vx.upd_ne _ _ h6]; exact ho, h5, h6, h7, h8⟩
    generalize H2.upd k (.cells [.slice oa n c, .slice ob m d, .map (some gb), .int .i64 (IntKind.i64.wrap (tries - 1))].toArray 88 (0, 0)) = H3 at *
    refine ⟨at0 k, b3.reads, (asks_ok hR).mono ?_⟩
    rintro _ H4 ⟨b4, n4, c4, rfl, g4, s4, o4⟩
    have hn4 : n4 ≤ 100000 := by
      have e1 := (g4.rd (E := mE) (sz := 13) (by omega) mLen).len
      have e2 := h2.len
      omega
    refine ⟨b4, n4, c4, rfl, (delFunc_ok (F := H3) (p := fun x => (mlook got (to_ x)).isSome) s4 o4 g4 hn4 fun H5 x Q hs hQ => ?_).mono ?_⟩
    · refine CallY.fn (by kernel_rfl) ?_
      obtain ⟨oa', n', c', ob', m', d', gb', j1, j2, j3, j4, j5, j6, j7, j8⟩ := (hR.mono hs).row
      obtain ⟨y1, y2, y3, y4, y5, y6, y7, y8, y9, y10, ⟨ya, yb, yc, yl⟩, ⟨za, zb, zc, zl⟩, ⟨wa, wb, wc, wl⟩⟩ := x
      refine tickR1.vc y1 y2 y3 y4 y5 y6 y7 y8 y9 y10 ya yb yc za zb zc wa wb wc (at0 k2) H5 Q ⟨H5, Sub.refl _, at0 k, (b3.sub hs).reads, neP k, neP k, some gb', j1.readsAt 2 (fun j v hv => ?_), map_get mapT j4 ?_⟩
      · match j, hv with
        | 0, hv => simpa using hv
        | j + 1, hv => simp at hv
      · rw [if_pos rfl, getD_vM]
        obtain ⟨n31, n32, n33, n34, s35, n36, n37, n38, n39, n40, ⟨a41, k42, k43, ll1⟩, ⟨a44, k45, k46, ll2⟩, ⟨a47, k48, k49, ll3⟩⟩ := (mlook got y3).getD z0
        refine ⟨n31, n32, n33, n34, s35, n36, n37, n38, n39, n40, a41, k42, k43, a44, k45, k46, a47, k48, k49, _, rfl, fun k5 hk5 => ?_⟩
        have hs5 := Sub.upd (.cells (mE z0).toArray 32 (0, 0)) hk5
        have b5 : Bx (H5.upd k5 (.cells (mE z0).toArray 32 (0, 0))) k5 32 (mE z0) := Bx.new H5 k5 _ _
        exact ⟨hs5, _, b5.writes [.int .i64 n31, .int .i64 n32, .int .i64 n33, .int .i64 n34, .string s35, .int .i64 n36, .int .i64 n37, .int .i64 n38, .int .i64 n39, .int .i64 n40, .slice a41 k42 k43, .slice a44 k45 k46, .slice a47 k48 k49] rfl, hQ _ (Bx.sub_of hs5 hk5)⟩
    · rintro _ H6 ⟨b6, m6, k6, rfl, g6, s6⟩
      exact ⟨b6, m6, k6, rfl, .inr ⟨ht', hR.mono s6, b6, m6, k6, rfl, g6⟩⟩
theorem tick_nil (H : PHeap) : Triple Try.prog 23 #[.pointer none] H fun v H' => v = .tuple #[.slice none 0 0, .bool true] ∧ Sub H H' := by
  refine tickR.vc none H _ fun k2 hk2 => ?_
  have b2 : Bx (H.upd k2 (.cells #[.pointer none] 63)) k2 63 [.pointer none] := Bx.new H k2 _ [.pointer none]
  exact ⟨none, b2.reads, fun e => by simp at e, fun _ => ⟨rfl, Sub.upd _ hk2⟩⟩

/-! ### Messages that are the same -/
abbrev bE : Int → List Value := intE .u8
/-- What a message's slices hold is read. -/
structure OkM (H : PHeap) (m : Msg) : Prop where
  who : RdL H iE 1 m.2.2.2.2.2.2.2.2.2.2.1.oa m.2.2.2.2.2.2.2.2.2.2.1.n m.2.2.2.2.2.2.2.2.2.2.1.l
  names : RdL H strE 1 m.2.2.2.2.2.2.2.2.2.2.2.1.oa m.2.2.2.2.2.2.2.2.2.2.2.1.n m.2.2.2.2.2.2.2.2.2.2.2.1.l
  data : RdL H bE 1 m.2.2.2.2.2.2.2.2.2.2.2.2.oa m.2.2.2.2.2.2.2.2.2.2.2.2.n m.2.2.2.2.2.2.2.2.2.2.2.2.l
  small : m.2.2.2.2.2.2.2.2.2.2.1.n ≤ 100000 ∧ m.2.2.2.2.2.2.2.2.2.2.2.1.n ≤ 100000 ∧ m.2.2.2.2.2.2.2.2.2.2.2.2.n ≤ 100000
theorem OkM.mono {H H' : PHeap} {m : Msg} (h : OkM H m) (hs : Sub H H') : OkM H' m := ⟨h.who.mono hs, h.names.mono hs, h.data.mono hs, h.small⟩
theorem sameInts_ok {H : PHeap} {oa ob : Option Addr} {n c c2 : Nat} {l : List Int} (h1 : RdL H iE 1 oa n l) (h2 : RdL H iE 1 ob n l) (hn : n ≤ 100000) :
    Triple Try.prog 37 #[.slice oa n c, .slice ob n c2] H fun v H' => v = .bool true ∧ H' = H := by
  refine sameInts.vc oa n c ob n c2 H _ ⟨fun h => by simp at h, fun _ => ⟨fun l H' => match l with | [.int _ i] => 0 ≤ i ∧ i ≤ n ∧ H' = H | _ => False, fun l _ => match l with | [.int _ i] => (n - i).toNat | _ => 0, ⟨by omega, by omega, rfl⟩, ?_⟩⟩
  rintro i H1 ⟨i0, i1, rfl⟩
  refine ⟨fun hi => ?_, fun _ => ⟨rfl, rfl⟩⟩
  have hi' : i < n := by simpa using hi
  obtain ⟨x, hx, hxr⟩ := h1.ex i0 hi'
  refine ⟨_, Sub.refl _, h1.ob i0 hi', x, hxr, h2.ob i0 hi', x, h2.at i0 hx, fun h => by simp at h, fun _ => ?_⟩
  rw [wrapS i0 (by omega)]
  exact ⟨⟨by omega, by omega, rfl⟩, ⟨by simp only; omega⟩⟩
theorem sameB_ok {H : PHeap} {oa ob : Option Addr} {n c c2 : Nat} {l : List Int} (h1 : RdL H bE 1 oa n l) (h2 : RdL H bE 1 ob n l) (hn : n ≤ 100000) :
    Triple Try.prog 56 #[.slice oa n c, .slice ob n c2] H fun v H' => v = .bool true ∧ H' = H := by
  refine sameB.vc oa n c ob n c2 H _ ⟨fun h => by simp at h, fun _ => ⟨fun l H' => match l with | [.int _ i] => 0 ≤ i ∧ i ≤ n ∧ H' = H | _ => False, fun l _ => match l with | [.int _ i] => (n - i).toNat | _ => 0, ⟨by omega, by omega, rfl⟩, ?_⟩⟩
  rintro i H1 ⟨i0, i1, rfl⟩
  refine ⟨fun hi => ?_, fun _ => ⟨rfl, rfl⟩⟩
  have hi' : i < n := by simpa using hi
  obtain ⟨x, hx, hxr⟩ := h1.ex i0 hi'
  refine ⟨_, Sub.refl _, h1.ob i0 hi', x, hxr, h2.ob i0 hi', x, h2.at i0 hx, fun h => by simp at h, fun _ => ?_⟩
  rw [wrapS i0 (by omega)]
  exact ⟨⟨by omega, by omega, rfl⟩, ⟨by simp only; omega⟩⟩
theorem sameS_ok {H : PHeap} {oa ob : Option Addr} {n c c2 : Nat} {l : List ByteArray} (h1 : RdL H strE 1 oa n l) (h2 : RdL H strE 1 ob n l) (hn : n ≤ 100000) :
    Triple Try.prog 55 #[.slice oa n c, .slice ob n c2] H fun v H' => v = .bool true ∧ H' = H := by
  refine sameS.vc oa n c ob n c2 H _ ⟨fun h => by simp at h, fun _ => ⟨fun l H' => match l with | [.int _ i] => 0 ≤ i ∧ i ≤ n ∧ H' = H | _ => False, fun l _ => match l with | [.int _ i] => (n - i).toNat | _ => 0, ⟨by omega, by omega, rfl⟩, ?_⟩⟩
  rintro i H1 ⟨i0, i1, rfl⟩
  refine ⟨fun hi => ?_, fun _ => ⟨rfl, rfl⟩⟩
  have hi' : i < n := by simpa using hi
  obtain ⟨x, hx, hxr⟩ := h1.ex i0 hi'
  refine ⟨_, Sub.refl _, h1.ob i0 hi', x, hxr, h2.ob i0 hi', x, h2.at i0 hx, fun h => ?_, fun _ => ?_⟩
  · have : eqS x x = true := eqS_iff.2 rfl
    rw [this] at h; simp at h
  · rw [wrapS i0 (by omega)]
    exact ⟨⟨by omega, by omega, rfl⟩, ⟨by simp only; omega⟩⟩
theorem same_ok {H : PHeap} {m : Msg} (h : OkM H m) : Triple Try.prog 31 #[vM m, vM m] H fun v H' => v = .bool true ∧ Sub H H' := by
  obtain ⟨y1, y2, y3, y4, y5, y6, y7, y8, y9, y10, ⟨ya, yb, yc, yl⟩, ⟨za, zb, zc, zl⟩, ⟨wa, wb, wc, wl⟩⟩ := m
  obtain ⟨h1, h2, h3, p1, p2, p3⟩ := h
  refine sameM.vc y1 y2 y3 y4 y5 y6 y7 y8 y9 y10 ya yb yc za zb zc wa wb wc y1 y2 y3 y4 y5 y6 y7 y8 y9 y10 ya yb yc za zb zc wa wb wc H _ fun k1 hk1 k2 hk2 => ?_
  have s1 := (Sub.upd (.cells #[.int .i64 y1, .int .i64 y2, .int .i64 y3, .int .i64 y4, .int .i64 y6, .int .i64 y7, .int .i64 y8, .int .i64 y9, .int .i64 y10] 3) hk1).trans (Sub.upd (.cells #[.int .i64 y1, .int .i64 y2, .int .i64 y3, .int .i64 y4, .int .i64 y6, .int .i64 y7, .int .i64 y8, .int .i64 y9, .int .i64 y10] 3) hk2)
  have c1 := (Bx.new H k1 3 (([y1, y2, y3, y4, y6, y7, y8, y9, y10] : List Int).flatMap iE)).upd (.cells #[.int .i64 y1, .int .i64 y2, .int .i64 y3, .int .i64 y4, .int .i64 y6, .int .i64 y7, .int .i64 y8, .int .i64 y9, .int .i64 y10] 3) hk2
  have c2 := Bx.new (H.upd k1 (.cells #[.int .i64 y1, .int .i64 y2, .int .i64 y3, .int .i64 y4, .int .i64 y6, .int .i64 y7, .int .i64 y8, .int .i64 y9, .int .i64 y10] 3)) k2 3 (([y1, y2, y3, y4, y6, y7, y8, y9, y10] : List Int).flatMap iE)
  refine (sameInts_ok (Bx.rd iLen c1) (Bx.rd iLen c2) (by simp)).mono ?_
  rintro _ _ ⟨rfl, rfl⟩
  refine ⟨true, rfl, fun _ => ⟨fun _ => (sameInts_ok (h1.mono s1) (h1.mono s1) p1).mono ?_, fun e => ?_⟩, fun e => by simp at e⟩
  · rintro _ _ ⟨rfl, rfl⟩
    refine ⟨true, rfl, fun _ => (sameS_ok (h2.mono s1) (h2.mono s1) p2).mono ?_, fun e => by simp at e⟩
    rintro _ _ ⟨rfl, rfl⟩
    refine ⟨true, rfl, fun _ => (sameB_ok (h3.mono s1) (h3.mono s1) p3).mono ?_, fun e => by simp at e⟩
    rintro _ _ ⟨rfl, rfl⟩
    exact ⟨true, rfl, rfl, s1⟩
  · rw [eqS_iff.2 rfl] at e; simp at e
/-- Too much, or small. -/
theorem far_ok {H : PHeap} {m : Msg} (h2 : RdL H strE 1 m.2.2.2.2.2.2.2.2.2.2.2.1.oa m.2.2.2.2.2.2.2.2.2.2.2.1.n m.2.2.2.2.2.2.2.2.2.2.2.1.l) :
    Triple Try.prog 18 #[vM m] H fun v H' => ∃ b, v = .bool b ∧ H' = H ∧ (b = false → m.2.2.2.2.2.2.2.2.2.2.1.n ≤ 100000 ∧ m.2.2.2.2.2.2.2.2.2.2.2.1.n ≤ 100000 ∧ m.2.2.2.2.2.2.2.2.2.2.2.2.n ≤ 100000) := by
  obtain ⟨y1, y2, y3, y4, y5, y6, y7, y8, y9, y10, ⟨ya, yb, yc, yl⟩, ⟨za, zb, zc, zl⟩, ⟨wa, wb, wc, wl⟩⟩ := m
  refine farM.vc y1 y2 y3 y4 y5 y6 y7 y8 y9 y10 ya yb yc za zb zc wa wb wc H _ ⟨fun _ => ⟨fun e1 => ⟨fun e2 => ⟨fun e3 => ?_, fun _ => ⟨true, rfl, rfl, fun e => by cases e⟩⟩, fun _ => ⟨true, rfl, rfl, fun e => by cases e⟩⟩, fun _ => ⟨true, rfl, rfl, fun e => by cases e⟩⟩, fun _ => ⟨true, rfl, rfl, fun e => by cases e⟩⟩
  have b1 : yb ≤ 300 := by simp at e1; omega
  have b2 : zb ≤ 20 := by simp at e2; omega
  have b3 : wb ≤ 300 := by simp at e3; omega
  have hz : Triple Try.prog 38 #[.slice za zb zc] H fun v H' => ∃ b, v = .bool b ∧ H' = H := by
    have h2' : RdL H strE 1 za zb zl := h2
    refine farSR.vc za zb zc H _ ⟨fun l H' => match l with | [.int _ i] => 0 ≤ i ∧ i ≤ zb ∧ H' = H | _ => False, fun l _ => match l with | [.int _ i] => (zb - i).toNat | _ => 0, ⟨by omega, by omega, rfl⟩, ?_⟩
    rintro i H1 ⟨i0, i1, rfl⟩
    refine ⟨fun hc => ?_, fun _ => ⟨_, rfl, rfl⟩⟩
    have hi : i < zb := by
      simp only [Bool.cond_eq_ite] at hc
      grind
    obtain ⟨x, hx, hxr⟩ := h2'.ex i0 hi
    refine ⟨h2'.ob i0 hi, x, hxr, fun _ => ⟨_, rfl, rfl⟩, fun _ => ?_⟩
    rw [wrapS i0 (by omega)]
    exact ⟨⟨by omega, by omega, rfl⟩, ⟨by simp only; omega⟩⟩
  refine hz.mono ?_
  rintro _ _ ⟨b, rfl, rfl⟩
  exact ⟨b, rfl, b, rfl, rfl, fun _ => ⟨by simp only; omega, by simp only; omega, by simp only; omega⟩⟩
end Go.Rnd
