/- The law GatherOwn returns true. -/
import Derived.Test.YtcdgeeakfoofpabGatG
namespace Go.Gat
open Go.Vx Go.Vc Go.Proofs Go.Pak

/-- A slice of somebody else's. -/
def Aside (F : PHeap) (k : Nat) (gm : Option Nat) (oa : Option Addr) : Prop := ∀ a, oa = some a → F a.block = none ∧ a.block ≠ k ∧ gm ≠ some a.block
section
variable {F F' H H' : PHeap} {k : Nat} {gm gm' : Option Nat} {oa : Option Addr} {e : TypeId} {sz n c : Nat} {xs : List Value}
theorem Aside.keep (A : Aside F k gm oa) (K : Keep k gm gm' F F' H H') (h : Owns H e sz oa n c xs) : Aside F' k gm' oa ∧ Owns H' e sz oa n c xs := by
  refine ⟨fun a ha => ?_, Owns.mono h fun a o ha ho => K.keep _ _ ho (A a ha).2.1 (A a ha).2.2⟩
  subst ha
  obtain ⟨o, ho⟩ := h.blk
  obtain ⟨h1, h2, h3⟩ := A a rfl
  refine ⟨?_, h2, fun e => ?_⟩
  · cases hh : F' a.block with
    | none => rfl
    | some o' =>
      rcases K.new _ _ hh with g | g
      · rw [h1] at g; cases g
      · rw [ho] at g; cases g
  · rcases K.mp _ e with g | g
    · exact h3 g
    · rw [ho] at g; cases g
theorem GaS.frame {kn : Bool} {who : List Int} {got : List (Int × BS)} (h : GaS F H k gm kn who got) (hf : Vx.Frame oa H H') (A : Aside F k gm oa) : GaS F H' k gm kn who got := by
  obtain ⟨pa, m, d, h1, h2⟩ := h.row
  refine ⟨hf.sub h.sub fun a ha => (A a ha).1, h.off, ⟨pa, m, d, h1.frame hf fun a ha => (A a ha).2.1.symm, h2⟩, ?_, h.ok⟩
  rcases h.map with g | ⟨gb, rfl, g1, g2⟩
  · exact .inl g
  · exact .inr ⟨gb, rfl, g1.mono fun o ho => hf _ _ ho fun a ha e => (A a ha).2.2 (by rw [e]), g2⟩
end
theorem frame_own {H H' : PHeap} {oa ob : Option Addr} {e : TypeId} {sz n c : Nat} {xs : List Value} (h : Owns H e sz ob n c xs) (hf : Vx.Frame oa H H') (hne : ∀ a b, oa = some a → ob = some b → a.block ≠ b.block) : Owns H' e sz ob n c xs :=
  Owns.mono h fun b o hb ho => hf _ _ ho fun a ha e => hne a b ha hb e.symm
theorem own_ok {H : PHeap} {a1 a4 : Option Addr} {n c m d : Nat} {b who : List Int} (hb : RdL H bE 1 a1 n b) (hw : RdL H iE 1 a4 m who) :
    Triple Try.prog 4 #[.slice a1 n c, .slice a4 m d] H fun v H' => v = .bool true ∧ Sub H H' := by
  have alive : ∀ {H1 : PHeap}, Sub H H1 → Triple Try.prog 5 #[] H1 fun v H' => ∃ b, v = Value.bool b ∧ Value.bool b = Value.bool true ∧ Sub H H' := fun hs => (alive_ok _).mono fun v H' ⟨h1, h2⟩ => ⟨true, h1, rfl, hs.trans h2⟩
  refine lawGOwn.vc a1 n c a4 m d H _ ⟨fun _ => alive (Sub.refl H), fun hg k10 hk10 k11 hk11 => ?_⟩
  have hnm : n ≤ 200 ∧ m ≤ 20 ∧ 0 < n := by
    simp only [Bool.cond_eq_ite] at hg
    grind
  obtain ⟨hn, hm, hn0⟩ := hnm
  have hbl := hb.len
  have G0 := GaS.new H hk10
  have s10 := Sub.upd (.cells #[.bool false, .slice none 0 0, .map none] 27 (0, 0)) hk10
  obtain ⟨o10, ho10⟩ := G0.some_k
  generalize H.upd k10 (.cells #[.bool false, .slice none 0 0, .map none] 27) = H1 at *
  -- own
  have s11 := Sub.upd (.cells #[] 5 (0, 0)) hk11
  refine append_rd tB (E := bE) (l := []) bLen (Owns.empty H1 k11 _ 1) ((hb.mono s10).mono s11) bOne (by simp [maxLen]; omega) (by omega) ?_
  intro a14 k16 H13 w1 hf1 hfr1
  rw [List.nil_append] at w1
  rw [Nat.zero_add] at w1 ⊢
  have s13 : Sub H1 H13 := hf1.sub s11 (off_at0 hk11)
  have off14 : Off H1 a14 := hfr1.off s11 (off_at0 hk11)
  refine ⟨a14, n, k16, rfl, fun k17 hk17 => ?_⟩
  -- list
  have s17 := Sub.upd (.cells #[.int .i64 4] 3 (0, 0)) hk17
  have w17 : OwnL (H13.upd k17 (.cells #[.int .i64 4] 3 (0, 0))) 3 iE 1 (at0 k17) 1 1 [4] := ⟨rfl, .inr ⟨k17, _, rfl, upd_eq .., Nat.le_refl _, by decide, rfl, rfl⟩⟩
  refine append_rd tI (E := iE) (l := [4]) iLen w17 (((hw.mono s10).mono s13).mono s17) iOne (by simp [maxLen]; omega) (by omega) ?_
  intro a20 k22 H19 w2 hf2 hfr2
  have s19 : Sub H13 H19 := hf2.sub s17 (off_at0 hk17)
  have off20 : Off H13 a20 := hfr2.off s17 (off_at0 hk17)
  refine ⟨a20, 1 + m, k22, rfl, ?_⟩
  have w1' : OwnL H19 5 bE 1 a14 n k16 b := Owns.mono w1 fun _ o _ ho => s19.le _ _ ho
  have A14 : Aside H k10 none a14 := fun a ha => by
    have := off14 a ha
    refine ⟨?_, fun e => (by rw [e, ho10] at this; cases this), by simp⟩
    cases hh : H a.block with
    | none => rfl
    | some o => rw [s10.le _ _ hh] at this; cases this
  have A20 : Aside H k10 none a20 := fun a ha => by
    have := off20 a ha
    refine ⟨?_, fun e => (by rw [e, s13.le _ _ ho10] at this; cases this), by simp⟩
    cases hh : H a.block with
    | none => rfl
    | some o => rw [s13.le _ _ (s10.le _ _ hh)] at this; cases this
  have ap : ∀ a b, a14 = some a → a20 = some b → a.block ≠ b.block := fun a b ha hb' e => by
    subst ha
    obtain ⟨o, ho⟩ := w1.blk
    have := off20 b hb'
    rw [← e, ho] at this; cases this
  have G1 := (G0.mono s13).mono s19
  refine (take_ok (from_ := 4) G1 (w1'.rd (E := bE) (sz := 1) (by omega) bLen) (by omega) (.inr fun a ha => (A14 a ha).2.1)).mono ?_
  rintro _ H24 ⟨rfl, F2, gm2, got2, K2, G2, hg2⟩
  obtain ⟨s, hs, rfl⟩ : ∃ s : BS, s.l = b ∧ got2 = [(4, s)] := hg2
  obtain ⟨B14, v1⟩ := A14.keep K2 w1'
  obtain ⟨B20, v2⟩ := A20.keep K2 w2
  have rd14 := Owns.rd (E := bE) (sz := 1) (by omega) bLen v1
  obtain ⟨y, hy, hyr⟩ := rd14.ex (i := (0 : Int)) (by omega) (by omega)
  refine ⟨_, rfl, rd14.ob (by omega) (by omega), y, hyr, rd14.ob (by omega) (by omega), ?_⟩
  obtain ⟨H27, hw27, v1', hf27⟩ := Owns.set bLen v1 (by omega) (i := 0) (by omega) (by omega) (IntKind.u8.wrap (y + 1))
  have G3 := G2.frame hf27 B14
  have v2' := frame_own v2 hf27 ap
  have hm22 := v2'.le
  have rd20 : RdL H27 iE 1 a20 1 [4] := by
    have := (Owns.rd (E := iE) (sz := 1) (by omega) iLen v2').take (i := 1) (by omega)
    simpa using this
  refine ⟨H27, hw27, ⟨by omega, by omega, by omega⟩, ?_⟩
  rw [slA_zero]
  refine (know_ok G3 (n := 1) rd20 (by omega)).mono ?_
  rintro _ H29 ⟨rfl, F4, K4, G4⟩
  obtain ⟨C20, u2⟩ := B20.keep K4 v2'
  obtain ⟨H31, hw31, u2', hf31⟩ := Owns.set iLen u2 (by omega) (i := 0) (by omega) (by omega) 9
  have rdu := Owns.rd (E := iE) (sz := 1) (by omega) iLen u2
  have G5 := G4.frame hf31 C20
  refine ⟨_, rfl, rdu.ob (by omega) (by omega), H31, hw31, (done_ok G5).mono ?_⟩
  have hdone : doneB true [4] [((4 : Int), s)] = true := by simp [doneB, mlook_one]
  have htx : texts [4] [((4 : Int), s)] = [b] := by simp [texts, mlook_one, hs]
  have hwho : (if false = true then ([] : List Int) else [4]) = [4] := rfl
  rw [hwho] at G5 ⊢
  have told : ∀ {v : Value} {G G' : PHeap}, (doneB true [4] [((4 : Int), s)] = false ∧ v = .tuple #[.slice none 0 0, .slice none 0 0, .bool false]) ∨
       (doneB true [4] [((4 : Int), s)] = true ∧ ∃ b n c b2 n2 c2 L, v = .tuple #[.slice b n c, .slice b2 n2 c2, .bool true] ∧ RdL G' iE 1 b n [4] ∧ RdL G' sE 1 b2 n2 L ∧ L.map (·.l) = texts [4] [((4 : Int), s)] ∧ ∀ s ∈ L, OwnB G G' s) →
       ∃ b1 n1 c1 b2 c2 u, v = .tuple #[.slice b1 n1 c1, .slice b2 1 c2, .bool true] ∧ RdL G' sE 1 b2 1 [u] ∧ u.l = b ∧ u.n = n ∧ OwnB G G' u := by
    rintro v G G' (⟨h, _⟩ | ⟨_, b1, n1, c1, b2, n2, c2, L, rfl, _, r2, hL, hO⟩)
    · rw [hdone] at h; cases h
    · rw [htx] at hL
      match L, hL with
      | [u], hL =>
        have hu : u.l = b := by simpa using hL
        have : n2 = 1 := r2.len.symm
        subst this
        have ho := hO u (by simp)
        exact ⟨b1, n1, c1, b2, c2, u, rfl, r2, hu, by rw [← ho.ok.rd.len, hu, hbl], ho⟩
  rintro _ H33 ⟨s33, hD⟩
  obtain ⟨b1, n1, c1, b2, c2, u, rfl, r2, hu, hun, hO⟩ := told hD
  have hHF : Sub H F4 := K2.le.trans K4.le
  have hF33 : Sub F4 H33 := G5.sub.trans s33
  have ru := r2.at (i := 0) (x := u) (by omega) rfl
  refine ⟨_, _, _, _, _, _, _, rfl, fun _ => ⟨fun _ => ⟨r2.ob (by omega) (by omega), _, _, _, ru, ?_⟩, fun e => by cases e⟩, fun e => by cases e⟩
  refine (sameB_ok (hu ▸ hO.ok.rd) (hb.mono (hHF.trans hF33)) (by omega)).mono ?_
  rintro _ _ ⟨rfl, rfl⟩
  refine ⟨true, rfl, fun e => (by cases e), fun _ => ⟨r2.ob (by omega) (by omega), _, _, _, ru, ?_⟩⟩
  have rdu2 := hO.ok.rd
  obtain ⟨z, hz, hzr⟩ := rdu2.ex (i := (0 : Int)) (by omega) (by omega)
  obtain ⟨H51, hw51, _, hf51⟩ := Owns.set bLen hO.own (by omega) (i := 0) (by omega) (by omega) (IntKind.u8.wrap (z + 1))
  refine ⟨rdu2.ob (by omega) (by omega), z, hzr, rdu2.ob (by omega) (by omega), H51, hw51, ?_⟩
  have AU : Aside F4 k10 gm2 u.oa := fun a ha => by
    have h0 := hO.off a ha
    obtain ⟨o5, ho5⟩ := G5.some_k
    refine ⟨?_, fun e => (by rw [e, ho5] at h0; cases h0), fun e => ?_⟩
    · cases hh : F4 a.block with
      | none => rfl
      | some o => rw [G5.sub.le _ _ hh] at h0; cases h0
    · rcases G5.map with ⟨g, _⟩ | ⟨gb, g, g1, _⟩
      · rw [g] at e; cases e
      · rw [g] at e
        cases e
        obtain ⟨es, cl, g4, _⟩ := g1.out
        rw [h0] at g4; cases g4
  have G6 := (G5.mono s33).frame hf51 AU
  refine (done_ok G6).mono ?_
  rintro _ H53 ⟨s53, hD⟩
  obtain ⟨b3, n3, c3, b4, c4, u4, rfl, r4, hu4, hun4, hO4⟩ := told hD
  have hH53 : Sub H H53 := (hHF.trans G6.sub).trans s53
  refine ⟨_, _, _, _, _, _, _, rfl, (forget_nil H53).mono ?_⟩
  rintro _ _ ⟨rfl, rfl⟩
  refine ⟨rfl, (done_nil _).mono ?_⟩
  rintro _ _ ⟨rfl, rfl⟩
  refine ⟨_, _, _, _, _, _, _, rfl, fun _ => ⟨r4.ob (by omega) (by omega), _, _, _, r4.at (i := 0) (x := u4) (by omega) rfl, (sameB_ok (hu4 ▸ hO4.ok.rd) (hb.mono hH53) (by omega)).mono ?_⟩, fun e => by cases e⟩
  rintro _ _ ⟨rfl, rfl⟩
  refine ⟨true, rfl, fun _ => ?_, fun e => by cases e⟩
  refine (take.vc none 1 a1 n c _ (fun v H' => v = .bool false ∧ H' = _) ⟨fun _ => ⟨rfl, rfl⟩, fun e => by simp at e⟩).mono ?_
  rintro _ _ ⟨rfl, rfl⟩
  refine ⟨false, rfl, fun _ => (know_nil _ a4 m d).mono ?_, fun e => by cases e⟩
  rintro _ _ ⟨rfl, rfl⟩
  refine ⟨false, rfl, fun _ => (known_nil _).mono ?_, fun e => by cases e⟩
  rintro _ _ ⟨rfl, rfl⟩
  refine ⟨false, rfl, fun _ => ⟨fun _ => (dump_nil _).mono ?_, fun e => by cases e⟩, fun e => by cases e⟩
  rintro _ _ ⟨rfl, rfl⟩
  exact ⟨_, _, _, rfl, fun _ => alive hH53, fun e => by cases e⟩
end Go.Gat
