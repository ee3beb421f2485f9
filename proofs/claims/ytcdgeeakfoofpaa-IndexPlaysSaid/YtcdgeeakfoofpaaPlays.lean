/- What the law IndexPlays tells: true. -/
import Derived.Test.YtcdgeeakfoofpaaIdxQ
import Derived.Test.YtcdgeeakfoofpaaVcIdxLaw
namespace Go.Idx
open Go.Vx Go.Vc Go.Proofs Go.Txt

theorem new_ok (H : PHeap) : Triple Try.prog 6 #[] H fun v H' => ∃ k, v = .pointer (at0 k) ∧ Ix H H' k [] :=
  newI.vc H _ fun k hk => ⟨k, rfl, Sub.upd _ hk, hk, List.Pairwise.nil, none, 0, 0, Bx.new _ k _ _, Owns.nil _ _ 4, fun _ h => (by cases h), Off.none _⟩
abbrev eb : En := (⟨#[98]⟩, 0, 0, 0)
abbrev ea1 : En := (⟨#[97]⟩, 1, 0, 0)
abbrev ea : En := (⟨#[97]⟩, 0, 0, 5)
theorem alive_ok (H : PHeap) : Triple Try.prog 5 #[] H fun v H' => v = .bool true ∧ Sub H H' := by
  refine aliveI.vc H _ ((new_ok H).mono ?_)
  rintro _ H1 ⟨k, rfl, hx1⟩
  refine ⟨at0 k, rfl, (as_ok eb).use ⟨_, _, _, _, rfl, ?_⟩⟩
  have c1 : Cut [] (key eb) [] [] [] := ⟨rfl, by simp, .inl rfl, by simp⟩
  refine (put_ok hx1 (by simp) c1).mono ?_
  rintro _ H2 ⟨rfl, hx2⟩
  refine ⟨_, _, _, _, _, rfl, (as_ok ea1).use ⟨_, _, _, _, rfl, ?_⟩⟩
  have c2 : Cut ([] ++ eb :: []) (key ea1) [] [] [eb] := ⟨rfl, by simp, .inl rfl, fun b hb => by simp at hb; subst hb; kernel_rfl⟩
  refine (put_ok hx2 (by simp) c2).mono ?_
  rintro _ H3 ⟨rfl, hx3⟩
  refine ⟨_, _, _, _, _, rfl, (as_ok ea).use ⟨_, _, _, _, rfl, ?_⟩⟩
  have c3 : Cut ([] ++ ea1 :: [eb]) (key ea) [] [] [ea1, eb] := ⟨rfl, by simp, .inl rfl, fun b hb => by
    simp at hb
    rcases hb with rfl | rfl
    · kernel_rfl
    · kernel_rfl⟩
  refine (put_ok hx3 (by simp) c3).mono ?_
  rintro _ H4 ⟨rfl, hx4⟩
  refine ⟨_, _, _, _, _, rfl, (all_ok hx4 (by simp)).mono ?_⟩
  rintro _ H5 ⟨b, n, c, rfl, g1, g2, _⟩
  have hrd := g1.rd (E := eE) (sz := 4) (by omega) eLen
  have hn := hrd.len
  have hn3 : n = 3 := by simpa using hn.symm
  subst hn3
  have ob : ∀ i : Int, 0 ≤ i → i < 3 → Ob (b ≠ none ∧ 0 ≤ i ∧ i < ((3 : Nat) : Int)) := fun i h0 h1 => hrd.ob h0 (by omega)
  have ne : ∀ i : Int, 0 ≤ i → i < 3 → elemA b i 4 ≠ none := fun i h0 h1 => hrd.elem_ne h0 (by omega)
  have nf : ∀ {a : Option Addr}, a ≠ none → fldA a 0 ≠ none := fun {a} h => by cases a with
    | none => exact absurd rfl h
    | some a => simp [fldA]
  have r0 : Reads H5 (elemA b 0 4) (eE ea) := hrd.at (i := 0) (by omega) rfl
  have r1 : Reads H5 (elemA b 1 4) (eE ea1) := hrd.at (i := 1) (by omega) rfl
  have r2 : Reads H5 (elemA b 2 4) (eE eb) := hrd.at (i := 2) (by omega) rfl
  refine ⟨b, 3, c, rfl, fun _ => ⟨ob 0 (by omega) (by omega), ⟨ne 0 (by omega) (by omega)⟩, 5, r0.fld 3 (fun j v hv => ?_), fun _ => ⟨ob 1 (by omega) (by omega), ⟨ne 1 (by omega) (by omega)⟩, ⟨nf (ne 1 (by omega) (by omega))⟩, 1, (r1.fld 0 (l2 := eE ea1) (fun j v hv => by simpa using hv)).fld 1 (fun j v hv => ?_), fun _ => ⟨ob 2 (by omega) (by omega), ⟨ne 2 (by omega) (by omega)⟩, ⟨nf (ne 2 (by omega) (by omega))⟩, _, fld_name (r2.fld 0 (l2 := eE eb) (fun j v hv => by simpa using hv)), fun _ => ?_, fun h => ?_⟩, fun h => by simp at h⟩, fun h => by simp at h⟩, fun h => by simp at h⟩
  · match j, hv with
    | 0, hv => simpa [eE, pairE, strE, intE] using hv
    | j + 1, hv => simp at hv
  · match j, hv with
    | 0, hv => simpa [eE, pairE, strE, intE] using hv
    | j + 1, hv => simp at hv
  · refine (names_ok (hx4.mono g2) (by simp)).mono ?_
    rintro _ H6 ⟨b, n, c, rfl, hst⟩
    have hn := hst.len
    have : n = 2 := by rw [← hn]; kernel_rfl
    subst this
    exact ⟨b, 2, c, rfl, rfl, hx4.sub.trans (g2.trans hst.sub)⟩
  · rw [eqS_iff.2 rfl] at h; simp at h

/-! ### The law -/
abbrev Act := Int × En
abbrev aE : Act → List Value := pairE (intE .i64) eE
/-- The index, and the document's list, behind i acts. -/
def Stt (H0 : PHeap) (k : Nat) (b : Option Addr) (m kk : Nat) (i : Nat) (H : PHeap) : Prop :=
  ∃ F l, Ix F H k l ∧ Sub H0 F ∧ RdL F eE 4 b m l ∧ m ≤ kk ∧ m ≤ i ∧ ∀ x ∈ l, x.1.size ≤ 40
theorem tail_ok {H0 H : PHeap} {k : Nat} {b : Option Addr} {m kk i : Nat} {X : PHeap → Prop} {Q1 Q2 : PHeap → Prop} (hst : Stt H0 k b m kk i H) (hi : i ≤ 100) (hX : ∀ H', Stt H0 k b m kk i H' → X H') :
    Triple Try.prog 15 #[.pointer (at0 k)] H fun v48 H49 => ∃ a50 k51 k52, v48 = Value.slice a50 k51 k52 ∧
      Triple Try.prog 14 #[.slice a50 k51 k52, .slice b m kk] H49 fun v53 H54 => ∃ b55, v53 = Value.bool b55 ∧
        ((!b55) = false → Triple Try.prog 17 #[.pointer (at0 k)] H54 fun v56 H57 => ∃ a58 k59 k60, v56 = Value.slice a58 k59 k60 ∧
          Triple Try.prog 18 #[.slice b m kk] H57 fun v61 H62 => ∃ a63 k64 k65, v61 = Value.slice a63 k64 k65 ∧
            Triple Try.prog 16 #[.slice a58 k59 k60, .slice a63 k64 k65] H62 fun v66 H67 => ∃ b68, v66 = Value.bool b68 ∧ ((!b68) = true → Q1 H67) ∧ ((!b68) = false → X H67)) ∧
        ((!b55) = !false → Q2 H54) := by
  obtain ⟨F, l, hx, h0, hrd, hmk, hmi, hS⟩ := hst
  have hl := hrd.len
  refine (all_ok hx (by omega)).mono ?_
  rintro _ H1 ⟨b1, n1, c1, rfl, g1, g2, _⟩
  have hrd1 := g1.rd (E := eE) (sz := 4) (by omega) eLen
  have hn1 : n1 = m := by rw [← hrd1.len, hl]
  subst hn1
  have hx1 := hx.mono g2
  refine ⟨b1, _, c1, rfl, (sameI_ok hrd1 (hrd.mono hx1.sub) (by omega)).mono ?_⟩
  rintro _ H1 ⟨rfl, rfl⟩
  refine ⟨true, rfl, fun _ => ?_, fun h => by simp at h⟩
  refine (names_ok hx1 (by omega)).mono ?_
  rintro _ H2 ⟨b2, n2, c2, rfl, hn2⟩
  have hx2 := hx1.mono hn2.sub
  have hrd2 := hn2.own.rd (E := sE) (sz := 1) (by omega) sLen
  refine ⟨b2, n2, c2, rfl, (refNames_ok (hrd.mono hx2.sub) (by omega) hx.srt fun x hx => by have := hS x hx; omega).mono ?_⟩
  rintro _ H3 ⟨b3, n3, c3, rfl, hrd3, hs3⟩
  have hn3 : n3 = n2 := by rw [← hrd3.len, hrd2.len]
  subst hn3
  have hlen := namesL_len l
  refine ⟨b3, _, c3, rfl, (same_ok (hrd2.mono hs3) hrd3 (by rw [← hrd3.len]; omega)).mono ?_⟩
  rintro _ H3 ⟨rfl, rfl⟩
  exact ⟨true, rfl, fun h => by simp at h, fun _ => hX _ ⟨F, l, hx2.mono hs3, h0, hrd, hmk, hmi, hS⟩⟩
/-- What the acts leave, for the tail. -/
def Jn (H0 : PHeap) (k i : Nat) (M : List En) : Rl := fun t H => match t with
  | [.slice b m kk, .bool d, w] => w = wasV M ∧ d = (!M.isEmpty) ∧ Stt H0 k b m kk (i + 1) H
  | _ => False
theorem eq_self (s : ByteArray) (a b c : Int) : (!(eqS s s && a == a && (b == b && c == c))) = false := by
  rw [eqS_iff.2 rfl]; simp
theorem was_inj {s : ByteArray} {a b c : Int} {M : List En} (h : Value.agg #[.string s, .int .i64 a, .int .i64 b, .int .i64 c] = wasV M) : s = (M.headD z0).1 ∧ a = (M.headD z0).2.1 ∧ b = (M.headD z0).2.2.1 ∧ c = (M.headD z0).2.2.2 := by
  have h' : Value.agg #[.string s, .int .i64 a, .int .i64 b, .int .i64 c] = Value.agg #[.string (M.headD z0).1, .int .i64 (M.headD z0).2.1, .int .i64 (M.headD z0).2.2.1, .int .i64 (M.headD z0).2.2.2] := h
  simpa using h'
theorem mem_put {l A M B : List En} {e : En} (c : Cut l (key e) A M B) {p : En → Prop} (h : ∀ x ∈ l, p x) (he : p e) : ∀ x ∈ A ++ e :: B, p x := by
  intro x hx
  rw [c.eq] at h
  rcases List.mem_append.1 hx with h1 | h1
  · exact h x (by simp [h1])
  · rcases List.mem_cons.1 h1 with rfl | h1
    · exact he
    · exact h x (by simp [h1])
theorem mem_cut {l A M B : List En} {k : Ky} (c : Cut l k A M B) {p : En → Prop} (h : ∀ x ∈ l, p x) : ∀ x ∈ A ++ B, p x := by
  intro x hx
  rw [c.eq] at h
  rcases List.mem_append.1 hx with h1 | h1
  · exact h x (by simp [h1])
  · exact h x (by simp [h1])
/-- Put, of both. -/
theorem put_both {H0 F H : PHeap} {k : Nat} {b : Option Addr} {m kk i : Nat} {l A M B : List En} {e : En} {K : List Value → PHeap → Prop} (hx : Ix F H k l) (h0 : Sub H0 F) (hrd : RdL F eE 4 b m l) (hmk : m ≤ kk) (hmi : m ≤ i) (hi : i ≤ 100) (hS : ∀ x ∈ l, x.1.size ≤ 40) (he : e.1.size ≤ 40) (c : Cut l (key e) A M B) (hK : K = Jn H0 k i M) :
    Triple Try.prog 9 #[.pointer (at0 k), .agg (eE e).toArray] H fun v75 H76 => ∃ s77 n78 n79 n80 b81, v75 = Value.tuple #[.agg #[.string s77, .int .i64 n78, .int .i64 n79, .int .i64 n80], .bool b81] ∧
      Triple Try.prog 10 #[.slice b m kk, .agg (eE e).toArray] H76 fun v82 H83 => ∃ a84 k85 k86, v82 = Value.slice a84 k85 k86 ∧ K [.slice a84 k85 k86, .bool b81, .agg #[.string s77, .int .i64 n78, .int .i64 n79, .int .i64 n80]] H83 := by
  subst hK
  have hl := hrd.len
  refine (put_ok hx (by omega) c).mono ?_
  rintro _ H1 ⟨rfl, hx1⟩
  refine ⟨_, _, _, _, _, rfl, (refPut_ok (hrd.mono hx1.sub) hmk (by omega) (by omega) c).mono ?_⟩
  rintro _ H2 ⟨b2, m2, k2, rfl, hst⟩
  obtain ⟨F', hx2, hFF, hnew⟩ := hx1.grow hst.sub
  have hm2 := hst.len
  have hlen := c.len
  simp only [List.length_append, List.length_cons] at hm2
  exact ⟨b2, m2, k2, rfl, rfl, rfl, F', _, hx2, h0.trans hFF, RdL.apart (by omega) eLen hst.own hst.off hnew, hst.own.le, by omega, mem_put c hS he⟩
theorem plays_ok {H : PHeap} {oa : Option Addr} {n cc : Nat} {l : List Act} (hl : RdL H aE 5 oa n l) :
    Triple Try.prog 3 #[.slice oa n cc] H fun v H' => v = .bool true ∧ Sub H H' := by
  have alive : ∀ {H1 : PHeap}, Sub H H1 → Triple Try.prog 5 #[] H1 fun v H' => ∃ b, v = Value.bool b ∧ Value.bool b = Value.bool true ∧ Sub H H' := fun hs => (alive_ok _).mono fun v H' ⟨h1, h2⟩ => ⟨true, h1, rfl, hs.trans h2⟩
  refine lawPlays.vc oa n cc H _ ⟨fun _ => alive (Sub.refl H), fun hn => (new_ok H).mono ?_⟩
  have hn60 : n ≤ 60 := by simp at hn; omega
  rintro _ H1 ⟨k, rfl, hx0⟩
  refine ⟨at0 k, rfl, fun t H' => match t with | [.slice b m kk, .int _ i] => 0 ≤ i ∧ i ≤ n ∧ Stt H k b m kk i.toNat H' | _ => False, fun t _ => match t with | [_, .int _ i] => (n - i).toNat | _ => 0, ⟨by omega, by omega, H, [], hx0, Sub.refl _, RdL.nil _ _ _, Nat.le_refl _, Nat.zero_le _, by simp⟩, ?_⟩
  rintro b m kk i H2 ⟨i0, i1, F, es, hx, h0, hrd, hmk, hmi, hS⟩
  obtain ⟨i, rfl⟩ : ∃ j : Nat, i = j := ⟨i.toNat, by omega⟩
  rw [Int.toNat_natCast] at hmi
  have hsub : Sub H H2 := h0.trans hx.sub
  refine ⟨fun hi => ?_, fun _ => alive hsub⟩
  have hi' : i < n := by simpa using hi
  have hl2 := hl.mono hsub
  obtain ⟨⟨kd, s, r, at', nn⟩, hx', hxr⟩ := hl2.ex (i := (i : Int)) (by omega) (by omega)
  refine ⟨hl2.ob (by omega) (by omega), kd, s, r, at', nn, hxr, fun _ => alive hsub, fun hsz => ?_⟩
  have hsz' : s.size ≤ 40 := by simp at hsz; omega
  obtain ⟨A, M, B, c⟩ := cut_ex (s, r) hx.srt
  have hel := hrd.len
  have hlen := c.len
  rw [wrapS (by omega) (by omega)]
  have tail : ∀ {b m kk H'}, Stt H k b m kk (i + 1) H' → 0 ≤ (i : Int) + 1 ∧ (i : Int) + 1 ≤ n ∧ Stt H k b m kk ((i : Int) + 1).toNat H' := fun h => ⟨by omega, by omega, by rw [show ((i : Int) + 1).toNat = i + 1 by omega]; exact h⟩
  refine (refFind_ok (hrd.mono hx.sub) (by omega) c).mono ?_
  rintro _ H2 ⟨rfl, rfl⟩
  refine ⟨_, rfl, fun hge => ?_, fun hlt => ?_⟩
  · have hM : M ≠ [] := by
      rintro rfl
      simp at hge
    have hE : M.isEmpty = false := by simpa using hM
    have hd1 := c.drop1 hM
    obtain ⟨mm, rfl, hmk', hmA⟩ := c.mid_at hM
    have hAm : A.length < m := by simp at hlen; omega
    have hrd2 := hrd.mono hx.sub
    rw [hE, if_neg (by simp)]
    have hgeT : decide ((A.length : Int) ≥ 0) = true := by simp
    refine ⟨hrd2.ob (by omega) (by omega), mm.1, mm.2.1, mm.2.2.1, mm.2.2.2, hrd2.at (by omega) (by simpa using hmA), (as_ok mm).use ⟨_, _, _, _, rfl, Jn H k i [mm], ?_, fun hk0 => ?_, fun hk0 => ⟨fun hk1 => ?_, fun hk1 => ?_⟩⟩⟩
    · rintro b2 m2 kk2 d s2 n2 n3 n4 H3 ⟨hw, rfl, hst⟩
      obtain ⟨rfl, rfl, rfl, rfl⟩ := was_inj hw
      refine ⟨fun _ => ⟨fun _ => tail_ok hst (by omega) fun H' h => ⟨tail h, ⟨by simp only; omega⟩⟩, fun h => ?_⟩, fun h => ?_⟩
      · rw [hgeT] at h; simp at h
      · exact absurd ((eq_self _ _ _ _).symm.trans h) (by simp)
    · refine (as_ok (s, r, at', nn)).use ⟨_, _, _, _, rfl, ?_⟩
      exact put_both hx h0 hrd hmk (by omega) (by omega) hS hsz' (e := (s, r, at', nn)) c rfl
    · refine (as_ok (s, r, at', nn)).use ⟨_, _, _, _, rfl, (drop_ok hx (by omega) c).mono ?_⟩
      rintro _ H3 ⟨rfl, hx3⟩
      refine ⟨_, _, _, _, _, rfl, fun _ => ?_, fun h => by rw [hgeT] at h; simp at h⟩
      refine (refDrop_ok (i := A.length) (hrd.mono hx3.sub) hAm hmk (by omega)).mono ?_
      rintro _ H4 ⟨b4, k4, rfl, g1, g2, g3⟩
      rw [c.take, hd1] at g1
      obtain ⟨F', hx4, hFF, hnew⟩ := hx3.grow g2
      exact ⟨b4, m - 1, k4, rfl, rfl, rfl, F', _, hx4, h0.trans hFF, RdL.apart (by omega) eLen g1 g3 hnew, g1.le, by omega, mem_cut c hS⟩
    · refine (as_ok (s, r, at', nn)).use ⟨_, _, _, _, rfl, (find_ok hx (by omega) c).mono ?_⟩
      rintro _ H3 ⟨rfl, hx3⟩
      exact ⟨_, _, _, _, _, rfl, rfl, rfl, F, es, hx3, h0, hrd, hmk, by omega, hS⟩
  · have hM : M = [] := by
      refine Classical.byContradiction fun hM => ?_
      have hE : M.isEmpty = false := by simpa using hM
      rw [hE, if_neg (by simp)] at hlt
      simp at hlt
    subst hM
    have e1 := c.eq
    rw [List.append_nil] at e1
    refine ⟨Jn H k i [], ?_, fun hk0 => ?_, fun hk0 => ⟨fun hk1 => ?_, fun hk1 => ?_⟩⟩
    · rintro b2 m2 kk2 d s2 n2 n3 n4 H3 ⟨hw, rfl, hst⟩
      obtain ⟨rfl, rfl, rfl, rfl⟩ := was_inj hw
      refine ⟨fun _ => ⟨fun _ => tail_ok hst (by omega) fun H' h => ⟨tail h, ⟨by simp only; omega⟩⟩, fun h => ?_⟩, fun h => ?_⟩
      · simp at h
      · exact absurd ((eq_self ByteArray.empty 0 0 0).symm.trans h) (by simp)
    · refine (as_ok (s, r, at', nn)).use ⟨_, _, _, _, rfl, ?_⟩
      exact put_both hx h0 hrd hmk (by omega) (by omega) hS hsz' (e := (s, r, at', nn)) c rfl
    · refine (as_ok (s, r, at', nn)).use ⟨_, _, _, _, rfl, (drop_ok hx (by omega) c).mono ?_⟩
      rintro _ H3 ⟨rfl, hx3⟩
      refine ⟨_, _, _, _, _, rfl, fun h => by simp at h, fun _ => ⟨rfl, rfl, F, es, ?_, h0, hrd, hmk, by omega, hS⟩⟩
      rw [e1]; exact hx3
    · refine (as_ok (s, r, at', nn)).use ⟨_, _, _, _, rfl, (find_ok hx (by omega) c).mono ?_⟩
      rintro _ H3 ⟨rfl, hx3⟩
      exact ⟨_, _, _, _, _, rfl, rfl, rfl, F, es, hx3, h0, hrd, hmk, by omega, hS⟩
end Go.Idx
