/- The law GatherPlays returns true. -/
import Derived.Test.YtcdgeeakfoofpabGatG
namespace Go.Gat
open Go.Vx Go.Vc Go.Proofs Go.Pak

theorem RfS.keep {F F' H H' : PHeap} {k m : Nat} {gm gm' : Option Nat} {kn : Bool} {who : List Int} {P : List (Int × BS)} (h : RfS F H m kn who P) (K : Keep k gm gm' F F' H H') (hs : Sub F' H') (h1 : m ≠ k) (h2 : gm ≠ some m) : RfS F' H' m kn who P ∧ gm' ≠ some m := by
  obtain ⟨oa, n, c, ob, q, d, oc, r, e, b1, b2, b3, b4, b5, b6⟩ := h.row
  refine ⟨⟨hs, ?_, ⟨oa, n, c, ob, q, d, oc, r, e, K.keep _ _ b1 h1 h2, b2.mono K.le, b3, b4.mono K.le, b5.mono K.le, b6⟩, fun x hx => (h.ok x hx).mono K.le, h.rise⟩, fun e => ?_⟩
  · cases hh : F' m with
    | none => rfl
    | some o =>
      rcases K.new m o hh with g | g
      · rw [h.off] at g; cases g
      · unfold Bx at b1; rw [b1] at g; cases g
  · rcases K.mp m e with g | g
    · exact h2 g
    · unfold Bx at b1; rw [b1] at g; cases g
theorem GaS.keep {F F' H H' : PHeap} {k m : Nat} {gm : Option Nat} {kn : Bool} {who : List Int} {got : List (Int × BS)} (h : GaS F H k gm kn who got) (K : Keep m none none F F' H H') (hs : Sub F' H') (h1 : k ≠ m) (h2 : gm ≠ some m) : GaS F' H' k gm kn who got := by
  obtain ⟨oa, n, c, b1, b2, b3⟩ := h.row
  have non : ∀ {q : Nat} {o : Obj}, H q = some o → F q = none → F' q = none := fun {q o} hq hf => by
    cases hh : F' q with
    | none => rfl
    | some o' =>
      rcases K.new q o' hh with g | g
      · rw [hf] at g; cases g
      · rw [hq] at g; cases g
  refine ⟨hs, non b1 h.off, ⟨oa, n, c, K.keep _ _ b1 h1 (by simp), b2.mono K.le, b3⟩, ?_, fun x hx => (h.ok x hx).mono K.le⟩
  rcases h.map with g | ⟨gb, e, g1, g2, g3⟩
  · exact .inl g
  · obtain ⟨es, cl, g4, _⟩ := g1.out
    exact .inr ⟨gb, e, g1.mono fun o ho => K.keep _ _ ho (fun e1 => h2 (by rw [e, e1])) (by simp), non g4 g2, g3⟩
theorem GaS.nodup {F H : PHeap} {k : Nat} {gm : Option Nat} {kn : Bool} {who : List Int} {got : List (Int × BS)} (h : GaS F H k gm kn who got) : (got.map (·.1)).Nodup := by
  rcases h.map with ⟨_, rfl⟩ | ⟨gb, e, g1, _⟩
  · simp
  · exact g1.nodup
theorem _root_.Go.Vx.RdL.blk {H : PHeap} {a : Addr} {n : Nat} {l : List Int} (h : RdL H bE 1 (some a) n l) (hn : 0 < n) : H a.block ≠ none := by
  obtain ⟨x, hx, hr⟩ := h.ex (i := 0) (by omega) (by omega)
  obtain ⟨a', ha', hg⟩ := hr.out
  simp [elemA] at ha'
  subst ha'
  have h1 := hg 0 _ rfl
  intro hno
  have e : ((a.add 0).add 0).block = a.block := by unfold Addr.add; split <;> (try split) <;> rfl
  unfold hcell at h1
  split at h1 <;> simp_all
/-- One proof for two places. -/
theorem both {T C : PHeap → Prop} {G : Prop} (use : (∀ a, C a → T a) → G) (key : ∀ a, C a → T a) : G := use key
abbrev big : Int := 9223372036854775807
abbrev Act := Int × Int × Sl Int × Sl Int
abbrev aE : Act → List Value := pairE iE (pairE iE (pairE Sl.E Sl.E))
structure OkAct (H : PHeap) (x : Act) : Prop where
  who : RdL H iE 1 x.2.2.1.oa x.2.2.1.n x.2.2.1.l
  b : RdL H bE 1 x.2.2.2.oa x.2.2.2.n x.2.2.2.l
  cap : x.2.2.2.n ≤ x.2.2.2.c
  far : x.2.1 ≤ big
  farW : ∀ w ∈ x.2.2.1.l, w ≤ big
/-- The gathering and the reference, behind i acts. -/
def Inv (H0 : PHeap) (k : Nat) (i : Nat) (a : Option Addr) (G : PHeap) : Prop :=
  ∃ m F gm kn who got P, a = at0 m ∧ Sub H0 F ∧ GaS F G k gm kn who got ∧ RfS F G m kn who P ∧ Rel got P ∧ m ≠ k ∧ gm ≠ some m ∧ got.length ≤ i ∧ (∀ x ∈ who, x ≤ big) ∧ ∀ x ∈ P, x.1 ≤ big
theorem plays_ok {H : PHeap} {oa : Option Addr} {n cc : Nat} {l : List Act} (hl : RdL H aE 4 oa n l) (hok : ∀ x ∈ l, OkAct H x) :
    Triple Try.prog 3 #[.slice oa n cc] H fun v H' => v = .bool true ∧ Sub H H' := by
  have alive : ∀ {H1 : PHeap}, Sub H H1 → Triple Try.prog 5 #[] H1 fun v H' => ∃ b, v = Value.bool b ∧ Value.bool b = Value.bool true ∧ Sub H H' := fun hs => (alive_ok _).mono fun v H' ⟨h1, h2⟩ => ⟨true, h1, rfl, hs.trans h2⟩
  refine lawGPlays.vc oa n cc H _ ⟨fun _ => alive (Sub.refl H), fun hn k7 hk7 k8 hk8 => ?_⟩
  have hn40 : n ≤ 40 := by simp at hn; omega
  have G0 := GaS.new H hk7
  obtain ⟨o7, ho7⟩ := G0.some_k
  have h78 : k8 ≠ k7 := fun e => by rw [e, ho7] at hk8; cases hk8
  have R0 := RfS.new (Sub.upd (.cells #[.bool false, .slice none 0 0, .map none] 27 (0, 0)) hk7) hk8
  refine ⟨fun t G => match t with | [.pointer a, .int _ i] => 0 ≤ i ∧ i ≤ n ∧ Inv H k7 i.toNat a G | _ => False, fun t _ => match t with | [_, .int _ i] => (n - i).toNat | _ => 0,
    ⟨by omega, by omega, k8, H, none, false, [], [], [], rfl, Sub.refl _, G0.mono (Sub.upd _ hk8), R0, Rel.nil, h78, by simp, by simp, by simp, by simp⟩, ?_⟩
  rintro a11 i H13 ⟨i0, i1, hI⟩
  obtain ⟨i, rfl⟩ : ∃ j : Nat, i = j := ⟨i.toNat, by omega⟩
  rw [Int.toNat_natCast] at hI
  obtain ⟨m, F, gm, kn, who, got, P, rfl, hHF, hG, hR, hRel, hmk, hgm, hlen, hw, hp⟩ := hI
  have hH13 := hHF.trans hG.sub
  refine ⟨fun hi => ?_, fun _ => alive hH13⟩
  have hi' : i < n := by simpa using hi
  have hl1 := hl.mono hH13
  obtain ⟨x, hx, hxr⟩ := hl1.ex (i := (i : Int)) (by omega) (by omega)
  rw [Int.toNat_natCast] at hx
  have ox := hok x (List.mem_of_getElem? hx)
  obtain ⟨kd, fr, ⟨wa, wn, wc, wl⟩, ⟨ba, bn, bc, bl⟩⟩ := x
  obtain ⟨ow, ob, oc, ofr, ofw⟩ := ox
  simp only at ow ob oc ofr ofw
  refine ⟨hl1.ob (by omega) (by omega), kd, fr, wa, wn, wc, ba, bn, bc, hxr, fun _ => alive hH13, fun hg => ?_⟩
  have hwn : wn ≤ 40 ∧ bn ≤ 300 := by
    simp only [Bool.cond_eq_ite] at hg
    grind
  obtain ⟨hwn, hbn⟩ := hwn
  refine ⟨fun t G => match t with | [.pointer a] => Inv H k7 (i + 1) a G | _ => False, fun a26 H27 hI2 => ?_, fun e0 => ?_, fun e0 => ⟨fun e1 => ?_, fun e1 => ?_⟩⟩
  · -- behind the act
    obtain ⟨m, F, gm, kn, who, got, P, rfl, hHF, hG, hR, hRel, hmk, hgm, hlen, hw, hp⟩ : Inv H k7 (i + 1) a26 H27 := hI2
    have hwl : who.length ≤ 100 := by obtain ⟨oa, n, c, h1, h2, h3⟩ := hG.row; rw [h2.len]; exact h3
    have hPl := hRel.len
    have row : ∀ {G : PHeap}, Sub H27 G → ∃ oa n c ob q d oc r e, Bx G m 31 [.bool kn, .slice oa n c, .slice ob q d, .slice oc r e] ∧ RdL G iE 1 oa n who ∧ n ≤ 100 := fun hs => by
      obtain ⟨oa, n, c, ob, q, d, oc, r, e, b1, b2, b3, _⟩ := hR.row
      exact ⟨oa, n, c, ob, q, d, oc, r, e, b1.sub hs, b2.mono (hR.sub.trans hs), b3⟩
    apply both (C := fun G => Sub H27 G)
    · intro fin
      refine (done_ok hG).mono ?_
      rintro v H29 ⟨s29, hD⟩
      have hR29 := hR.mono s29
      rcases hD with ⟨hd, rfl⟩ | ⟨hd, b, q, c, b', q', c', L, rfl, r1, r2, hL, hO⟩
      · refine ⟨_, _, _, _, _, _, _, rfl, (rDone_ok hR29).mono ?_⟩
        rintro _ H38 ⟨s38, hD2⟩
        obtain ⟨_, rfl⟩ := hD2.resolve_right fun h => by rw [← hRel.done, hd] at h; cases h.1
        refine ⟨_, _, _, _, rfl, H38, Sub.refl _, fun _ => (sameL_ok (L := []) (M := []) (RdL.nil _ _ _) (RdL.nil _ _ _) (by omega) rfl (by simp) (by simp)).mono ?_, fun e => by cases e⟩
        rintro _ _ ⟨rfl, rfl⟩
        refine ⟨true, rfl, Sub.refl _, fun _ => ⟨fun e => (by cases e), fun _ => ⟨fun _ => ⟨fun _ => ?_, fun e => by cases e⟩, fun e => by cases e⟩⟩, fun e => by cases e⟩
        exact fin _ (s29.trans s38)
      · refine ⟨_, _, _, _, _, _, _, rfl, (rDone_ok hR29).mono ?_⟩
        rintro _ H38 ⟨s38, hD2⟩
        obtain ⟨_, b2, q2, c2, L2, rfl, r3, hL2, hO2⟩ := hD2.resolve_left fun h => by rw [← hRel.done, hd] at h; cases h.1
        have eL : L.map (·.l) = L2.map (·.l) := by rw [hL, hL2, hRel.textsEq]
        have hLl : L.length = who.length := by
          have := congrArg List.length hL
          simpa [texts] using this
        have hq' := r2.len
        refine ⟨_, _, _, _, rfl, H38, Sub.refl _, fun _ => (sameL_ok (r2.mono s38) r3 (by omega) eL (fun u hu => (hO u hu).ok.mono s38) hO2).mono ?_, fun e => by cases e⟩
        rintro _ _ ⟨rfl, rfl⟩
        obtain ⟨oa1, n1, c1, ob1, q1, d1, oc1, r1', e1, x1, x2, x3⟩ := row (s29.trans s38)
        refine ⟨true, rfl, Sub.refl _, fun _ => ⟨fun _ => ⟨neP m, neP m, oa1, n1, c1, x1.q1, ?_⟩, fun e => by cases e⟩, fun e => by cases e⟩
        have en : q = n1 := by rw [← r1.len, ← x2.len]
        subst en
        refine (sameInts_ok (r1.mono s38) x2 (by omega)).mono ?_
        rintro _ _ ⟨rfl, rfl⟩
        refine ⟨true, rfl, Sub.refl _, fun _ => ⟨fun e => (by cases e), fun _ => ?_⟩, fun e => by cases e⟩
        exact fin _ (s29.trans s38)
    · rintro G s38
      obtain ⟨oa1, n1, c1, ob1, q1, d1, oc1, r1', e1, x1, x2, x3⟩ := row s38
      have hG38 := hG.mono s38
      refine ⟨neP m, neP m, kn, x1.q0, (known_ok hG38).mono ?_⟩
      rintro _ _ ⟨rfl, rfl⟩
      refine ⟨kn, rfl, Sub.refl _, fun _ => (dump_ok hG38 (by omega)).mono ?_, fun e => by simp at e⟩
      rintro _ H58 ⟨b, q, c, K, rfl, hK, rd, s58⟩
      rw [hRel.cont hK] at rd
      refine ⟨b, q, c, rfl, (rDump_ok ((hR.mono s38).mono s58) (by omega) hw hp).mono ?_⟩
      rintro _ H63 ⟨b2, q2, c2, rfl, rd2, s63⟩
      have hdl := dumpB_len kn who (P.map fun x => (x.1, x.2.l))
      rw [List.length_map] at hdl
      have hql := rd.len
      refine ⟨b2, q2, c2, rfl, (sameB_ok (rd.mono s63) rd2 (by omega)).mono ?_⟩
      rintro _ _ ⟨rfl, rfl⟩
      refine ⟨true, rfl, fun e => (by cases e), fun _ => ?_⟩
      rw [wrapS (by omega) (by omega)]
      refine ⟨⟨by omega, by omega, ?_⟩, ⟨by simp only; omega⟩⟩
      rw [show ((i : Int) + 1).toNat = i + 1 by omega]
      exact ⟨m, F, gm, kn, who, got, P, rfl, hHF, (hG38.mono s58).mono s63, ((hR.mono s38).mono s58).mono s63, hRel, hmk, hgm, by omega, hw, hp⟩
  · -- Take
    refine ⟨H, hH13, (take_ok (from_ := fr) hG (ob.mono hH13) hbn ?_).mono ?_⟩
    · by_cases h0 : bn = 0
      · exact .inl h0
      · refine .inr fun a ha e => ?_
        subst ha
        have := ob.blk (by omega)
        rw [e, hk7] at this
        exact this rfl
    rintro _ H1 ⟨rfl, F1, gm1, got1, K1, G1, hg1⟩
    obtain ⟨R1, hgm1⟩ := hR.keep K1 G1.sub hmk hgm
    refine ⟨_, rfl, hHF.trans (K1.le.trans G1.sub), (rTake_ok (i := fr) (s := ⟨ba, bn, bc, bl⟩) R1 ⟨ob.mono (hHF.trans K1.le), oc, hbn⟩ (by rw [hRel.len]; omega)).mono ?_⟩
    rintro _ H2 ⟨rfl, F2, P2, K2, R2, hP2⟩
    have G2 := G1.keep K2 R2.sub (fun e => hmk e.symm) hgm1
    have hlk := hRel.some fr
    refine ⟨_, rfl, fun e => ?_, fun _ => ?_⟩
    · rw [← Option.not_isSome, ← Option.not_isSome, hlk] at e; simp at e
    · refine ⟨m, F2, gm1, kn, who, got1, P2, rfl, hHF.trans (K1.le.trans K2.le), G2, R2, ?_, hmk, hgm1, ?_, hw, ?_⟩
      · rw [hlk] at hg1
        cases hh : mlook P fr with
        | some t =>
          rw [hh] at hg1 hP2
          simp only [Option.isSome_some, if_true] at hg1 hP2
          rw [hg1, hP2]; exact hRel
        | none =>
          rw [hh] at hg1 hP2
          obtain ⟨s, hs, e1⟩ : ∃ s : BS, s.l = bl ∧ got1 = got ++ [(fr, s)] := hg1
          have hP2' : Ins P (fr, ⟨ba, bn, bc, bl⟩) P2 := hP2
          rw [e1]
          refine hRel.ins ?_ hs hP2'
          rw [hh] at hlk
          simpa using hlk
      · split at hg1
        · rw [hg1]; omega
        · obtain ⟨s, hs, e1⟩ := hg1
          rw [e1, List.length_append, List.length_singleton]; omega
      · split at hP2
        · rw [hP2]; exact hp
        · intro y hy
          rcases List.mem_append.1 (hP2.perm.mem_iff.1 hy) with hy | hy
          · exact hp y hy
          · simp at hy; subst hy; exact ofr
  · -- Know
    refine ⟨H, hH13, (know_ok hG (ow.mono hH13) (by omega)).mono ?_⟩
    rintro _ H1 ⟨rfl, F1, K1, G1⟩
    obtain ⟨R1, hgm1⟩ := hR.keep K1 G1.sub hmk hgm
    refine ⟨_, rfl, hHF.trans (K1.le.trans G1.sub), (rKnow_ok R1 (ow.mono (hHF.trans K1.le)) (by omega)).mono ?_⟩
    rintro _ H2 ⟨rfl, F2, K2, R2⟩
    have G2 := G1.keep K2 R2.sub (fun e => hmk e.symm) hgm1
    refine ⟨_, rfl, fun e => by simp at e, fun _ => ⟨m, F2, gm, true, _, got, P, rfl, hHF.trans (K1.le.trans K2.le), G2, R2, hRel, hmk, hgm1, by omega, ?_, hp⟩⟩
    cases kn
    · exact ofw
    · exact hw
  · -- Forget
    refine (forget_ok hG).mono ?_
    rintro _ H1 ⟨rfl, K1, G1⟩
    refine ⟨rfl, fun k137 hk137 => ?_⟩
    obtain ⟨o1, ho1⟩ := G1.some_k
    exact ⟨k137, F, none, false, [], [], [], rfl, hHF, G1.mono (Sub.upd _ hk137), RfS.new G1.sub hk137, Rel.nil, (fun e => by rw [e, ho1] at hk137; cases hk137), by simp, by simp, by simp, by simp⟩
end Go.Gat
