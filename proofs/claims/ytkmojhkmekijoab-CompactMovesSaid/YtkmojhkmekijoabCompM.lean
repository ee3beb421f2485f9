/- The contracts of the reference's map of the slots, and of its test. -/
import Derived.Test.YtkmojhkmekijoabCompC
namespace Go.Comp
open Go.Vx Go.Vc Go.Proofs

theorem tInts : ElemT Try.prog 24 3 1 8 := .of (by kernel_rfl)
theorem zInt : ∀ i z, Try.prog.info? 3 = some i → i.zero = some z → z.cells.toList = intE .i64 0 := fun i z hi hz => by
  have h0 : (Try.prog.info? 3).bind (·.zero) = some (.int .i64 0) := by kernel_rfl
  rw [hi] at h0
  simp [hz] at h0
  subst h0
  rfl
/-- Which slots the first runs have. -/
def Cov (l : List Rn) (x : Int) : Prop := ∃ r ∈ l, covers r x
/-- The map tells of each slot below 256 whether a run has it. -/
def OutOk (out : List Int) (C : Int → Prop) : Prop := out.length = 256 ∧ ∀ x : Nat, x < 256 → ∃ v, out[x]? = some v ∧ (0 ≤ v ↔ C x)
theorem mapOk_snoc {l : List Rn} {r : Rn} : MapOk (l ++ [r]) ↔ MapOk l ∧ okRun r ∧ ∀ x, covers r x → ¬ Cov l x := by
  unfold MapOk Cov
  rw [List.pairwise_append]
  constructor
  · rintro ⟨h1, h2, _, h3⟩
    exact ⟨⟨fun a ha => h1 a (by simp [ha]), h2⟩, h1 r (by simp), fun x hx ⟨a, ha, hax⟩ => h3 a ha r (by simp) x hax hx⟩
  · rintro ⟨⟨h1, h2⟩, h3, h4⟩
    refine ⟨fun a ha => ?_, h2, List.pairwise_singleton _ _, fun a ha b hb x hax hbx => ?_⟩
    · rcases List.mem_append.1 ha with ha | ha
      · exact h1 a ha
      · simp at ha; subst ha; exact h3
    · simp at hb; subst hb; exact h4 x hbx ⟨a, ha, hax⟩
theorem mapOk_take {l : List Rn} (h : MapOk l) (k : Nat) : MapOk (l.take k) := ⟨fun r hr => h.1 r (List.mem_of_mem_take hr), h.2.sublist (List.take_sublist _ _)⟩
/-- What Map promises. -/
def MapPost (H : PHeap) (l : List Rn) (v : Value) (H' : PHeap) : Prop :=
  ∃ a c b out, v = .tuple #[.slice a 256 c, .bool b] ∧ (b = true ↔ MapOk l) ∧ OwnL H' 3 (intE .i64) 1 a 256 c out ∧ (b = true → OutOk out (Cov l)) ∧ Sub H H' ∧ Off H a
theorem map_ok {H : PHeap} {oa : Option Addr} {n c : Nat} {l : List Rn} (hl : RdL H E2 2 oa n l) (hn : n ≤ 60) (h64 : ∀ r ∈ l, -9223372036854775808 ≤ r.1 ∧ r.1 ≤ 9223372036854775807 ∧ -9223372036854775808 ≤ r.2 ∧ r.2 ≤ 9223372036854775807) :
    Triple Try.prog 21 #[.slice oa n c] H (MapPost H l) := by
  refine refMap.vc oa n c H _ (makeSlice_own (n := 256) (Z := (0 : Int)) (E := intE .i64) tInts zInt rfl (by decide) (by decide) ?_)
  intro b H1 hb how hf
  have hs1 : Sub H H1 := hf.sub (Sub.refl H) (Off.none _)
  have hoff : Off H (at0 b) := fun a ha => by cases ha; exact hb
  refine ⟨_, _, _, rfl, fun l' H' => match l' with | [.int _ i] => 0 ≤ i ∧ i ≤ 256 ∧ ∃ out, OwnL H' 3 (intE .i64) 1 (at0 b) 256 256 out ∧ out.length = 256 ∧ (∀ x : Nat, (x : Int) < i → out[x]? = some (-1)) ∧ Sub H H' | _ => False,
    fun l' _ => match l' with | [.int _ i] => (256 - i).toNat | _ => 0, ⟨by omega, by omega, _, how, List.length_replicate, fun x hx => by omega, hs1⟩, ?_⟩
  rintro i H2 ⟨i0, i1, out, how2, hol, hout, hs2⟩
  refine ⟨fun h => ?_, fun h => ?_⟩
  · have hi : i < 256 := by simpa using h
    obtain ⟨H3, hw, how3, hf3⟩ := how2.set (E := intE .i64) (sz := 1) (fun _ => rfl) Nat.one_pos i0 (show i < (256 : Nat) by omega) (-1)
    have e2 : IntKind.i64.wrap (i + 1) = i + 1 := wrap64 (by omega) (by omega)
    rw [e2]
    refine ⟨⟨by simp, i0, by omega⟩, H3, hw, ⟨by omega, by omega, _, how3, by simp [hol], fun x hx => ?_, hf3.sub hs2 hoff⟩, ⟨by simp only; omega⟩⟩
    by_cases e : x = i.toNat
    · subst e; rw [List.getElem?_set_self (by omega)]
    · rw [List.getElem?_set_ne (fun h => e h.symm)]; exact hout x (by omega)
  have hi : i = 256 := by simp at h; omega
  subst hi
  -- the runs, one by one
  refine ⟨fun l' H' => match l' with | [.int _ k] => 0 ≤ k ∧ k ≤ n ∧ ∃ out, OwnL H' 3 (intE .i64) 1 (at0 b) 256 256 out ∧ OutOk out (Cov (l.take k.toNat)) ∧ MapOk (l.take k.toNat) ∧ Sub H H' | _ => False,
    fun l' _ => match l' with | [.int _ k] => ((n : Int) - k).toNat | _ => 0, ⟨by omega, by omega, out, how2, ⟨hol, fun x hx => ⟨-1, hout x (by omega), ⟨fun h => by omega, fun ⟨r, hr, _⟩ => by simp at hr⟩⟩⟩, ⟨fun r hr => by simp at hr, by simp⟩, hs2⟩, ?_⟩
  clear hout hol how2 hs2 out H2 hs1 hf how H1
  rintro k H2 ⟨k0, k1, out, how, hout, hmap, hs⟩
  refine ⟨fun h => ?_, fun h => ?_⟩
  rotate_left
  · have : k = n := by simp at h; omega
    subst this
    rw [Int.toNat_natCast, List.take_of_length_le (by have := hl.len; omega)] at hout hmap
    exact ⟨at0 b, 256, true, out, rfl, by simp [hmap], how, fun _ => hout, hs, hoff⟩
  have hk : k < n := by simpa using h
  have hl2 := hl.mono hs
  obtain ⟨r, hr, hrd⟩ := hl2.ex k0 hk
  have hr64 := h64 r (List.mem_of_getElem? hr)
  have r0 := hrd.fld 0 (l2 := [.int .i64 r.1]) (fun j v hv => by cases j with | zero => simpa [E2, pairE, intE] using hv | succ j => simp at hv)
  have r1 := hrd.fld 1 (l2 := [.int .i64 r.2]) (fun j v hv => by cases j with | zero => simpa [E2, pairE, intE] using hv | succ j => simp at hv)
  have ob := hl.ob (i := k) k0 hk
  have ob2 : Ob (elemA oa k 2 ≠ none) := ⟨hl.elem_ne k0 hk⟩
  have hmem : r ∈ l := List.mem_of_getElem? hr
  have hbad : ∀ (H' : PHeap) (out : List Int), ¬ okRun r → OwnL H' 3 (intE .i64) 1 (at0 b) 256 256 out → Sub H H' → MapPost H l (.tuple #[.slice (at0 b) 256 256, .bool false]) H' := fun H' out hbad h1 h2 =>
    ⟨_, _, _, _, rfl, ⟨fun h => by simp at h, fun h => absurd (h.1 r hmem) hbad⟩, h1, fun h => by simp at h, h2, hoff⟩
  refine ⟨H2, Sub.refl _, ob, ob2, r.1, r0, fun c1 => ⟨ob, ob2, r.1, r0, fun c2 => ⟨ob, ob2, r.2, r1, fun c3 => ⟨ob, ob2, r.2, r1, ob, ob2, r.1, r0, fun c4 => hbad H2 out ?_ how hs, fun c4 => ?_⟩, fun c3 => hbad H2 out ?_ how hs⟩, fun c2 => hbad H2 out ?_ how hs⟩, fun c1 => hbad H2 out ?_ how hs⟩
  case refine_3 => simp at c3; unfold okRun; omega
  case refine_4 => simp at c2; unfold okRun; omega
  case refine_5 => simp at c1; unfold okRun; omega
  all_goals (simp at c1 c2 c3; rw [wrap64 (by omega) (by omega)] at c4; simp at c4)
  · unfold okRun; omega
  have hok : okRun r := by unfold okRun; omega
  have htake : l.take (k.toNat + 1) = l.take k.toNat ++ [r] := by rw [List.take_add_one, hr]; rfl
  refine ⟨ob, ob2, r.1, r0, fun l' H' => match l' with | [.int _ i] => r.1 ≤ i ∧ i ≤ r.1 + r.2 ∧ (∀ x, r.1 ≤ x → x < i → ¬ Cov (l.take k.toNat) x) ∧ ∃ out, OwnL H' 3 (intE .i64) 1 (at0 b) 256 256 out ∧ OutOk out (fun x => Cov (l.take k.toNat) x ∨ (r.1 ≤ x ∧ x < i)) ∧ Sub H H' | _ => False,
    fun l' _ => match l' with | [.int _ i] => (r.1 + r.2 - i).toNat | _ => 0, ⟨by omega, by omega, fun x h1 h2 => by omega, out, how, ⟨hout.1, fun x hx => ?_⟩, hs⟩, ?_⟩
  · obtain ⟨v, h1, h2⟩ := hout.2 x hx
    exact ⟨v, h1, h2.trans ⟨.inl, fun h => h.resolve_right (by omega)⟩⟩
  clear hout how hs hl2 hrd r0 r1 out
  rintro i H3 ⟨i0, i1, hno, out, how, hout, hs⟩
  have hrd := (hl.mono hs).at k0 hr
  have r0 := hrd.fld 0 (l2 := [.int .i64 r.1]) (fun j v hv => by cases j with | zero => simpa [E2, pairE, intE] using hv | succ j => simp at hv)
  have r1 := hrd.fld 1 (l2 := [.int .i64 r.2]) (fun j v hv => by cases j with | zero => simpa [E2, pairE, intE] using hv | succ j => simp at hv)
  have e1 : IntKind.i64.wrap (r.1 + r.2) = r.1 + r.2 := wrap64 (by omega) (by omega)
  have e2 : IntKind.i64.wrap (k + 1) = k + 1 := wrap64 (by omega) (by omega)
  rw [e2]
  refine ⟨H3, Sub.refl _, ob, ob2, r.1, r0, ob, ob2, r.2, r1, ?_⟩
  rw [e1]
  refine ⟨fun hc => ?_, fun hc => ?_⟩
  · have hi : i < r.1 + r.2 := by simpa using hc
    have hob : Ob (at0 b ≠ none ∧ 0 ≤ i ∧ i < ((256 : Nat) : Int)) := ⟨by simp, by omega, by omega⟩
    obtain ⟨v, hv1, hv2⟩ := hout.2 i.toNat (by omega)
    rw [show ((i.toNat : Nat) : Int) = i by omega] at hv2
    have hcov : 0 ≤ v ↔ Cov (l.take k.toNat) i := hv2.trans ⟨fun h => h.resolve_right (by omega), .inl⟩
    obtain ⟨H4, hw, how4, hf4⟩ := how.set (E := intE .i64) (sz := 1) (fun _ => rfl) Nat.one_pos (show 0 ≤ i by omega) (show i < (256 : Nat) by omega) k
    have e3 : IntKind.i64.wrap (i + 1) = i + 1 := wrap64 (by omega) (by omega)
    rw [e3]
    refine ⟨hob, v, (how.rd (E := intE .i64) (sz := 1) Nat.one_pos (fun _ => rfl)).at (by omega) hv1, fun hv => ?_, fun hv => ⟨hob, H4, hw, ⟨by omega, by omega, fun x h1 h2 => ?_, _, how4, ⟨by simp [hout.1], fun x hx => ?_⟩, hf4.sub hs hoff⟩, ⟨by simp only; omega⟩⟩⟩
    · have hv0 : 0 ≤ v := by simpa using hv
      refine ⟨_, _, _, _, rfl, ⟨fun h => by simp at h, fun h => ?_⟩, how, fun h => by simp at h, hs, hoff⟩
      have h5 := mapOk_take h (k.toNat + 1)
      rw [htake, mapOk_snoc] at h5
      exact absurd (hcov.1 hv0) (h5.2.2 i ⟨by omega, by omega⟩)
    · by_cases e : x = i
      · subst e; intro h; have := hcov.2 h; simp at hv; omega
      · exact hno x h1 (by omega)
    · by_cases e : x = i.toNat
      · subst e
        refine ⟨k, by rw [List.getElem?_set_self (by have := hout.1; omega)], ⟨fun _ => .inr ⟨by omega, by omega⟩, fun _ => k0⟩⟩
      · obtain ⟨u, hu1, hu2⟩ := hout.2 x hx
        refine ⟨u, by rw [List.getElem?_set_ne (fun h => e h.symm)]; exact hu1, hu2.trans ⟨fun h => h.imp id (fun h => ⟨h.1, by omega⟩), fun h => h.imp id (fun h => ⟨h.1, by omega⟩)⟩⟩
  · have hi : i = r.1 + r.2 := by simp at hc; omega
    subst hi
    refine ⟨⟨by omega, by omega, out, how, ?_, ?_, hs⟩, ⟨by simp only; omega⟩⟩
    · rw [show (k + 1).toNat = k.toNat + 1 by omega, htake]
      refine ⟨hout.1, fun x hx => ?_⟩
      obtain ⟨v, h1, h2⟩ := hout.2 x hx
      refine ⟨v, h1, h2.trans ⟨fun h => ?_, fun ⟨a, ha, hax⟩ => ?_⟩⟩
      · rcases h with ⟨a, ha, hax⟩ | h
        · exact ⟨a, by simp [ha], hax⟩
        · exact ⟨r, by simp, h⟩
      · rcases List.mem_append.1 ha with ha | ha
        · exact .inl ⟨a, ha, hax⟩
        · simp at ha; subst ha; exact .inr hax
    · rw [show (k + 1).toNat = k.toNat + 1 by omega, htake, mapOk_snoc]
      exact ⟨hmap, hok, fun x hx => hno x hx.1 hx.2⟩

theorem incr_take : ∀ {l : List Rn} {k : Nat} {a b : Rn}, l[k]? = some a → l[k + 1]? = some b → incr (l.take (k + 2)) = (incr (l.take (k + 1)) && decide (a.1 < b.1))
  | [], k, a, b, h, _ => by simp at h
  | x :: l, 0, a, b, h, h2 => by
    cases l with
    | nil => simp at h2
    | cons y l => simp at h h2; subst h h2; simp [incr]
  | x :: l, k + 1, a, b, h, h2 => by
    simp only [List.getElem?_cons_succ] at h h2
    have ih := incr_take h h2
    cases l with
    | nil => simp at h
    | cons y l =>
      simp only [List.take_succ_cons, incr] at ih ⊢
      rw [ih, Bool.and_assoc]
theorem refApart_ok {H : PHeap} {oa : Option Addr} {n c : Nat} {l : List Rn} (hl : RdL H E2 2 oa n l) (hn : n ≤ 60) (h64 : ∀ r ∈ l, -9223372036854775808 ≤ r.1 ∧ r.1 ≤ 9223372036854775807 ∧ -9223372036854775808 ≤ r.2 ∧ r.2 ≤ 9223372036854775807) :
    Triple Try.prog 12 #[.slice oa n c] H fun v H' => v = .bool (apartF 0 l) ∧ Sub H H' := by
  refine refApart.vc oa n c H _ ((map_ok hl hn h64).mono ?_)
  rintro _ H1 ⟨a, c1, b, out, rfl, hb, _, _, hs, _⟩
  refine ⟨_, _, _, _, rfl, fun l' H' => match l' with | [.bool b2, .int _ k] => 1 ≤ k ∧ (k ≤ n ∨ k = 1) ∧ (b2 = true ↔ MapOk l ∧ incr (l.take k.toNat) = true) ∧ H' = H1 | _ => False,
    fun l' _ => match l' with | [_, .int _ k] => ((n : Int) - k).toNat | _ => 0, ⟨by omega, .inr rfl, hb.trans ⟨fun h => ⟨h, ?_⟩, fun h => h.1⟩, rfl⟩, ?_⟩
  · cases l with
    | nil => rfl
    | cons x l => rfl
  rintro b2 k H2 ⟨k1, k2, hk, rfl⟩
  have hl2 := hl.mono hs
  refine ⟨fun h => ⟨H2, Sub.refl _, fun hb2 => ?_, fun hb2 => ?_⟩, fun h => ⟨?_, hs⟩⟩
  · have hkn : k < n := by simpa using h
    have e1 : IntKind.i64.wrap (k - 1) = k - 1 := wrap64 (by omega) (by omega)
    have e2 : IntKind.i64.wrap (k + 1) = k + 1 := wrap64 (by omega) (by omega)
    rw [e1, e2]
    obtain ⟨r, hr, hrd⟩ := hl2.ex (i := k) (by omega) hkn
    obtain ⟨q, hq, hqd⟩ := hl2.ex (i := k - 1) (by omega) (by omega)
    refine ⟨hl.ob (by omega) (by omega), ⟨hl.elem_ne (by omega) (by omega)⟩, q.1, hqd.fld 0 (fun j v hv => by cases j with | zero => simpa [E2, pairE, intE] using hv | succ j => simp at hv), hl.ob (by omega) hkn, ⟨hl.elem_ne (by omega) hkn⟩, r.1,
      hrd.fld 0 (fun j v hv => by cases j with | zero => simpa [E2, pairE, intE] using hv | succ j => simp at hv), ⟨by omega, .inl (by omega), ?_, rfl⟩, ⟨by simp only; omega⟩⟩
    obtain ⟨m, rfl⟩ : ∃ m : Nat, k = m + 1 := ⟨(k - 1).toNat, by omega⟩
    rw [show ((m : Int) + 1 - 1).toNat = m by omega] at hq
    rw [show ((m : Int) + 1).toNat = m + 1 by omega] at hr hk
    rw [show ((m : Int) + 1 + 1).toNat = m + 2 by omega, incr_take hq hr]
    have := hk.1 hb2
    simp [this.1, this.2]
  · have hkn : k < n := by simpa using h
    have e2 : IntKind.i64.wrap (k + 1) = k + 1 := wrap64 (by omega) (by omega)
    rw [e2]
    refine ⟨⟨by omega, .inl (by omega), ⟨(fun h => by cases h), fun h => ?_⟩, rfl⟩, ⟨by simp only; omega⟩⟩
    obtain ⟨m, rfl⟩ : ∃ m : Nat, k = m + 1 := ⟨(k - 1).toNat, by omega⟩
    have hll := hl.len
    rw [show ((m : Int) + 1 + 1).toNat = m + 2 by omega, incr_take (List.getElem?_eq_getElem (show m < l.length by omega)) (List.getElem?_eq_getElem (show m + 1 < l.length by omega)), Bool.and_eq_true] at h
    have := hk.2 ⟨h.1, by rw [show ((m : Int) + 1).toNat = m + 1 by omega]; exact h.2.1⟩
    rw [this] at hb2
    cases hb2
  · have hkn : (n : Int) ≤ k := by simpa using h
    rw [List.take_of_length_le (by have := hl.len; omega)] at hk
    refine vb ?_
    have := apart_iff l
    rcases hA : apartF 0 l with _ | _
    · cases hb : b2 with
      | false => rfl
      | true => rw [hA] at this; exact absurd (this.2 (hk.1 hb)) (by simp)
    · exact hk.2 (this.1 hA)
theorem alive23_ok {H : PHeap} : Triple Try.prog 11 #[] H fun v H' => v = .bool true ∧ Sub H H' := by
  refine alive23.vc H _ fun k1 hk1 => ?_
  have hb : Bx (H.upd k1 (.cells #[.int .i64 1, .int .i64 2, .int .i64 5, .int .i64 1] 47 (0, 0))) k1 47 [.int .i64 1, .int .i64 2, .int .i64 5, .int .i64 1] := Bx.new _ _ _ _
  have hrd : RdL (H.upd k1 (.cells #[.int .i64 1, .int .i64 2, .int .i64 5, .int .i64 1] 47 (0, 0))) E2 2 (at0 k1) 2 [((1 : Int), (2 : Int)), (5, 1)] := Bx.rd (E := E2) (sz := 2) (l := [((1 : Int), (2 : Int)), (5, 1)]) (fun _ => rfl) hb
  refine (moves_ok hrd (by omega) (fun r hr => by simp at hr; rcases hr with rfl | rfl <;> simp)).mono ?_
  rintro _ H1 ⟨b, m, k, rfl, how, hs, _⟩
  have hm : movesOf [((1 : Int), (2 : Int)), (5, 1)] = [(1, 0, 2), (5, 2, 1)] := by decide
  rw [hm] at how
  have h3 := how.rd (E := E3) (sz := 3) (by omega) (fun _ => rfl)
  have h2 : m = 2 := h3.len.symm
  subst h2
  have g0 := h3.at (i := 0) (by omega) rfl
  have g1 := h3.at (i := 1) (by omega) rfl
  exact ⟨_, _, _, rfl, fun _ => ⟨h3.ob (by omega) (by omega), 1, 0, 2, g0, fun _ => ⟨h3.ob (by omega) (by omega), 5, 2, 1, g1, rfl, (Sub.upd _ hk1).trans hs⟩, fun h => by simp at h⟩, fun h => by simp at h⟩
end Go.Comp
