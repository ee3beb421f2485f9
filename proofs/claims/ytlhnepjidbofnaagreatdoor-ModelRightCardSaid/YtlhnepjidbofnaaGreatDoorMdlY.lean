/- The document's model: may an event come, but for what the map has: the contract. -/
import Derived.Test.YtlhnepjidbofnaaGreatDoorMdlX
namespace Go.Mdl
open Go.Vx Go.Vc Go.Proofs Go.Txt

def riseN (l : List ByteArray) : Prop := ∀ i s t, l[i]? = some s → l[i + 1]? = some t → lessS s t = true
open Classical in
noncomputable def formP (ops : List OpS) (o : OpX) (x : AnX) : Prop :=
  if x.e = 0 then (if o.k = 4 then (∀ s ∈ x.names, calledS ops s) ∧ riseN x.names ∧ x.size = 0 ∧ x.data.size = 0 else x.names = [] ∧ (o.k = 2 ∨ x.data.size = 0) ∧ (o.k = 5 ∨ x.size = 0))
  else plainX x ∧ (if x.e = 13 then True else if x.e = 11 ∨ x.e = 12 then o.k = 1 ∨ o.k = 6 else if x.e = 9 then o.k = 1 else if x.e = 10 then o.k ≠ 1 ∧ o.k ≠ 4 else False)
/-- An answer, but for what the map has. -/
noncomputable def ansP (ops : List OpS) (o : OpS) (x : AnX) : Prop := (o.began = true ∧ formP ops o.op x) ∨ (o.began = false ∧ x.e ≠ 0 ∧ x.e = checkX o.op ∧ plainX x)
noncomputable def orderP (ops : List OpS) (e : EvX) : Prop :=
  (e.kind = 1 ∧ e.id = ops.length) ∨ (e.kind ≠ 1 ∧ 0 ≤ e.id ∧ ∃ o, ops[e.id.toNat]? = some o ∧ o.over = false ∧
    ((e.kind = 2 ∧ o.began = false ∧ ¬ busyX ops ∧ o.op = e.op ∧ checkX e.op = 0) ∨ (e.kind = 3 ∧ ansP ops o e.an) ∨ e.kind = 4))
theorem orderP_at {ops : List OpS} {e : EvX} {i : Nat} {o : OpS} (hk : e.kind ≠ 1) (hi : e.id = i) (ho : ops[i]? = some o) : orderP ops e ↔ o.over = false ∧ ((e.kind = 2 ∧ o.began = false ∧ ¬ busyX ops ∧ o.op = e.op ∧ checkX e.op = 0) ∨ (e.kind = 3 ∧ ansP ops o e.an) ∨ e.kind = 4) := by
  unfold orderP
  rw [hi, Int.toNat_natCast, ho]
  constructor
  · rintro (⟨h, _⟩ | ⟨_, _, o', ho', h⟩)
    · exact (hk h).elim
    · cases ho'; exact h
  · intro h
    exact .inr ⟨hk, by omega, o, rfl, h⟩
theorem form_ok {H : PHeap} {a : Option Addr} {n c : Nat} {ops : List OpS} (h : OpL H a n ops) (hn : n ≤ 100000) {ov : OpV} {o : OpX} (ho : OpW H ov o) {av : AnV} {x : AnX} (hx : AnR H av x) (hxn : av.n.n ≤ 1000) (hsz : ∀ s ∈ x.names, s.size ≤ 1000000) :
    Triple Tryz.prog 46 #[.slice a n c, .agg (opE ov).toArray, .agg (anE av).toArray] H fun v H' => ∃ b, v = .bool b ∧ (b = true ↔ formP ops o x) ∧ H' = H := by
  have hk := ho.k
  have he := hx.e
  have hs := hx.size
  have hd := bw_len hx.data
  have hl := hx.names.len
  have hz : x.names = [] ↔ av.n.n = 0 := ⟨fun e => by rw [e] at hl; simpa using hl.symm, fun e => List.eq_nil_of_length_eq_zero (by omega)⟩
  have pl : ∀ {R : Value → PHeap → Prop}, (∀ b, (b = true ↔ plainX x) → R (.bool b) H) → Triple Tryz.prog 47 #[.agg (anE av).toArray] H R := fun hR => (rplain_ok hx).mono (by rintro _ _ ⟨b, rfl, hb, rfl⟩; exact hR b hb)
  refine rForm.vc a n c ov.k ov.s ov.a ov.n ov.c av.e av.size av.d.a av.d.n av.d.c av.n.a av.n.n av.n.c H _ ⟨fun e0 => ⟨fun e4 => ?_, fun e4 => ?_⟩, fun e0 => ⟨fun e13 => pl fun b hb => ⟨b, rfl, b, rfl, ?_, rfl⟩, fun e13 => ⟨fun e11 => pl fun b hb => ⟨b, rfl, _, rfl, ?_, rfl⟩, fun e11 => ⟨fun e9 => pl fun b hb => ⟨b, rfl, _, rfl, ?_, rfl⟩, fun e9 => ⟨fun e10 => pl fun b hb => ⟨b, rfl, _, rfl, ?_, rfl⟩, fun e10 => ⟨false, rfl, ?_, rfl⟩⟩⟩⟩⟩⟩
  · -- a list
    have x0 : x.e = 0 := by rw [← he]; simpa using e0
    have k4 : o.k = 4 := by rw [← hk]; simpa using e4
    have eP : formP ops o x = ((∀ s ∈ x.names, calledS ops s) ∧ riseN x.names ∧ x.size = 0 ∧ x.data.size = 0) := by unfold formP; rw [if_pos x0, if_pos k4]
    rw [eP]
    refine ⟨fun t H' => match t with | [.int _ i] => 0 ≤ i ∧ i ≤ av.n.n ∧ H' = H ∧ (∀ s ∈ x.names.take i.toNat, calledS ops s) ∧ ∀ (j : Nat) s t, (j : Int) + 1 < i → x.names[j]? = some s → x.names[j + 1]? = some t → lessS s t = true | _ => False, fun t _ => match t with | [.int _ i] => (av.n.n - i).toNat | _ => 0, ⟨by omega, by omega, rfl, by simp, fun j s t hj => by omega⟩, ?_⟩
    rintro i _ ⟨i0, i1, rfl, hcal, hris⟩
    obtain ⟨i, rfl⟩ : ∃ j : Nat, i = j := ⟨i.toNat, by omega⟩
    rw [Int.toNat_natCast] at hcal
    refine ⟨fun hi => ?_, fun hi => ?_⟩
    · have hi' : i < av.n.n := by simpa using hi
      obtain ⟨s, hs', hsr⟩ := hx.names.ex (i := (i : Int)) (by omega) (by omega)
      rw [Int.toNat_natCast] at hs'
      have ew : IntKind.i64.wrap ((i : Int) + 1) = (i : Int) + 1 := wrap64 (by omega) (by omega)
      have ei : ((i : Int) + 1).toNat = i + 1 := by omega
      rw [ew]
      refine ⟨_, Sub.refl _, hx.names.ob (by omega) (by omega), s, hsr, (called_ok h hn s).mono ?_⟩
      rintro _ _ ⟨b, rfl, hb, rfl⟩
      have hcal' : calledS ops s → ∀ s ∈ x.names.take ((i : Int) + 1).toNat, calledS ops s := fun hc t ht => by
        rw [ei, List.take_add_one, hs'] at ht
        rcases List.mem_append.1 ht with h1 | h1
        · exact hcal t h1
        · simp at h1; rw [h1]; exact hc
      refine ⟨b, rfl, Sub.refl _, fun eb => ⟨fun e1 => ?_, fun e1 => ?_⟩, fun eb => ⟨false, rfl, ⟨fun e => by (cases e), fun hh => ?_⟩, rfl⟩⟩
      · have hi0 : 0 < i := by simp at e1; omega
        have ew1 : IntKind.i64.wrap ((i : Int) - 1) = (i : Int) - 1 := wrap64 (by omega) (by omega)
        rw [ew1]
        obtain ⟨r, hr', hrr⟩ := hx.names.ex (i := (i : Int) - 1) (by omega) (by omega)
        have ei1 : ((i : Int) - 1).toNat = i - 1 := by omega
        rw [ei1] at hr'
        refine ⟨hx.names.ob (by omega) (by omega), r, hrr, hx.names.ob (by omega) (by omega), s, hsr, (refLessS_ok (hsz r (List.mem_of_getElem? hr'))).use ⟨_, rfl, fun e2 => ⟨false, rfl, ⟨fun e => by (cases e), fun hh => ?_⟩, rfl⟩, fun e2 => ⟨⟨by omega, by omega, rfl, hcal' (hb.1 (by simpa using eb)), fun j s2 t2 hj h1 h2 => ?_⟩, ⟨by simp only; omega⟩⟩⟩⟩
        · have := hh.2.1 (i - 1) r s hr' (by rw [show i - 1 + 1 = i by omega]; exact hs')
          rw [this] at e2; cases e2
        · by_cases e3 : (j : Int) + 1 = i
          · have ej : j = i - 1 := by omega
            rw [ej] at h1 h2
            rw [show i - 1 + 1 = i by omega] at h2
            rw [hr'] at h1; rw [hs'] at h2; cases h1; cases h2
            simpa using e2
          · exact hris j s2 t2 (by omega) h1 h2
      · have hi0 : i = 0 := by simp at e1; omega
        exact ⟨⟨by omega, by omega, rfl, hcal' (hb.1 (by simpa using eb)), fun j s2 t2 hj => by omega⟩, ⟨by simp only; omega⟩⟩
      · have := hb.2 (hh.1 s (List.mem_of_getElem? hs')); rw [this] at eb; cases eb
    · have : ¬ i < av.n.n := by simpa using hi
      rw [List.take_of_length_le (by omega)] at hcal
      refine ⟨_, rfl, ?_, rfl⟩
      rw [← hs, hd]
      simp only [Bool.cond_eq_ite]
      constructor
      · intro hh
        refine ⟨hcal, fun j s t h1 h2 => hris j s t (by have := (List.getElem?_eq_some_iff.1 h2).1; omega) h1 h2, ?_⟩
        grind
      · rintro ⟨_, _, h1, h2⟩; grind
  · have x0 : x.e = 0 := by rw [← he]; simpa using e0
    have k4 : ¬ o.k = 4 := by rw [← hk]; simpa using e4
    refine ⟨_, rfl, ?_, rfl⟩
    unfold formP
    rw [if_pos x0, if_neg k4, hz, ← hk, hd, ← hs]
    simp only [Bool.cond_eq_ite]
    grind
  all_goals have x0 : ¬ x.e = 0 := by rw [← he]; simpa using e0
  all_goals unfold formP; rw [if_neg x0]
  · have x13 : x.e = 13 := by rw [← he]; simpa using e13
    rw [if_pos x13, and_true]; exact hb
  all_goals have x13 : ¬ x.e = 13 := by rw [← he]; simpa using e13
  all_goals rw [if_neg x13]
  · have x11 : x.e = 11 ∨ x.e = 12 := by rw [← he]; simp only [Bool.cond_eq_ite] at e11; grind
    rw [if_pos x11, ← hb, ← hk]
    simp only [Bool.cond_eq_ite]; grind
  all_goals have x11 : ¬ (x.e = 11 ∨ x.e = 12) := by rw [← he]; simp only [Bool.cond_eq_ite] at e11; grind
  all_goals rw [if_neg x11]
  · have x9 : x.e = 9 := by rw [← he]; simpa using e9
    rw [if_pos x9, ← hb, ← hk]
    simp only [Bool.cond_eq_ite]; grind
  all_goals have x9 : ¬ x.e = 9 := by rw [← he]; simpa using e9
  all_goals rw [if_neg x9]
  · have x10 : x.e = 10 := by rw [← he]; simpa using e10
    rw [if_pos x10, ← hb, ← hk]
    simp only [Bool.cond_eq_ite]; grind
  · have x10 : ¬ x.e = 10 := by rw [← he]; simpa using e10
    rw [if_neg x10]; simp
theorem tOpR : ElemT Tryz.prog 76 80 5 56 := .of (by kernel_rfl)
theorem opsW_set {H : PHeap} {vs : List OsV} {ops : List OpS} (h : OpsW H vs ops) {i : Nat} {v v' : OsV} {g : OpS → OpS} (hv : vs[i]? = some v) (hg : ∀ o, OsW H v o → OsW H v' (g o)) : OpsW H (vs.set i v') (ops.modify i g) := by
  refine ⟨by simp [h.1], fun j u o hu ho => ?_⟩
  rw [List.getElem?_modify] at ho
  by_cases e : i = j
  · subst e
    have hlt := (List.getElem?_eq_some_iff.1 hv).1
    rw [List.getElem?_set_self hlt] at hu
    cases hu
    cases ho' : ops[i]? with
    | none => rw [ho'] at ho; simp at ho
    | some o' => rw [ho'] at ho; simp at ho; subst ho; exact hg o' (h.2 i v o' hv ho')
  · rw [List.getElem?_set_ne e] at hu
    simp only [if_neg e] at ho
    exact h.2 j u o hu (by simpa using ho)
/-- A copy of a list of operations. -/
theorem copyOps {H : PHeap} {a : Option Addr} {n c : Nat} {vs : List OsV} (hr : RdL H oE 5 a n vs) (hn : n ≤ 100000) {k : Nat} (hk : H k = none) {K : Value → PHeap → Prop}
    (hK : ∀ a' c' H', OwnL H' 80 oE 5 a' n c' vs → Sub H H' → Off H a' → K (.slice a' n c') H') :
    EvV Tryz.prog (Builtin.append_ #[76, 76] 76 #[.slice (at0 k) 0 0, .slice a n c]) (H.upd k (.cells #[] 80 (0, 0))) K := by
  have hsk := Sub.upd (.cells #[] 80 (0, 0)) hk
  have hoffk : Off H (at0 k) := fun a ha => by cases ha; exact hk
  refine append_rd tOpR (E := oE) (sz := 5) (l := []) (l2 := vs) oLen ⟨by simp, .inr ⟨k, #[], rfl, upd_eq .., Nat.le_refl _, Nat.zero_le _, by simp, by simp⟩⟩ (hr.mono hsk) oOne (by simp [maxLen]; omega) (by omega) ?_
  intro b k' H2 how hf hfr
  rw [List.nil_append] at how
  rw [Nat.zero_add] at how ⊢
  exact hK b k' H2 how (hf.sub hsk hoffk) (hfr.off hsk hoffk)
end Go.Mdl
