/- The document's model: what may be of a name: the contract of 'Of'. -/
import Derived.Test.YtlhnepjidbofnaaGreatDoorMdlR3
namespace Go.Mdl
open Go.Vx Go.Vc Go.Proofs Go.Txt

theorem fld_fld (a : Option Addr) (i j : Nat) : fldA (fldA a i) j = fldA a (i + j) := by
  cases a with
  | none => rfl
  | some a => simp only [fldA, Option.map_some, Option.some.injEq, Addr.add]; grind
/-- A step of a list has the name. -/
def nm (name : ByteArray) (s : SpX) : SpX := if s.kind = 3 then ⟨s.kind, ⟨s.op.k, name, s.op.d⟩, s.an⟩ else s
def nameAt (name : ByteArray) (xs : List SpX) : Nat → List SpX
  | 0 => xs
  | i + 1 => (nameAt name xs i).modify i (nm name)
theorem nameAt_get (name : ByteArray) (xs : List SpX) : ∀ i j, (nameAt name xs i)[j]? = if j < i then xs[j]?.map (nm name) else xs[j]?
  | 0, j => by simp [nameAt]
  | i + 1, j => by
    unfold nameAt
    rw [List.getElem?_modify, nameAt_get name xs i j]
    by_cases h1 : j < i
    · simp [h1, show ¬ i = j by omega, show j < i + 1 by omega]
    · by_cases h2 : i = j
      · subst h2; simp
      · simp [h1, h2, show ¬ j < i + 1 by omega]
theorem nameAt_all {name : ByteArray} {xs : List SpX} {n : Nat} (h : xs.length ≤ n) : nameAt name xs n = xs.map (nm name) := by
  refine List.ext_getElem? fun j => ?_
  rw [nameAt_get, List.getElem?_map]
  by_cases h1 : j < n
  · rw [if_pos h1]
  · rw [if_neg h1, List.getElem?_eq_none (by omega)]; rfl
theorem nameAt_len (name : ByteArray) (xs : List SpX) : ∀ i, (nameAt name xs i).length = xs.length
  | 0 => rfl
  | i + 1 => by unfold nameAt; rw [List.length_modify, nameAt_len name xs i]
theorem SpsR.set {H : PHeap} {vs : List SpV} {xs : List SpX} (h : SpsR H vs xs) {i : Nat} {v' : SpV} {g : SpX → SpX} (hi : i < vs.length) (hg : ∀ x, xs[i]? = some x → SpR H v' (g x)) : SpsR H (vs.set i v') (xs.modify i g) := by
  refine ⟨by simp [h.1], fun j u o hu ho => ?_⟩
  rw [List.getElem?_modify] at ho
  by_cases e : i = j
  · subst e
    rw [List.getElem?_set_self hi] at hu
    cases hu
    cases ho' : xs[i]? with
    | none => rw [ho'] at ho; simp at ho
    | some o' => rw [ho'] at ho; simp at ho; subst ho; exact hg o' ho'
  · rw [List.getElem?_set_ne e] at hu
    simp only [if_neg e] at ho
    exact h.2 j u o hu (by simpa using ho)
/-- The steps of a name. -/
noncomputable def stsN (l : List EvX) (name : ByteArray) (n : Nat) : List SpX := (stsAt l name n).map (nm name)
/-- What may be of a name. -/
def OfA (l : List EvX) (name : ByteArray) (n : Nat) (e : Fl) : Prop := okAt l n ∧ ∃ z, W (stsN l name n) c0 z ∧ e = (z.p, z.d)
theorem sp_put {H : PHeap} {a : Option Addr} {n c : Nat} {vs : List SpV} (how : OwnL H 64 pE 8 a n c vs) {i : Nat} (hi : i < n) {v : SpV} (hv : vs[i]? = some v) (name : ByteArray) :
    ∃ H', Writes H H' (fldA (fldA (elemA a (i : Int) 8) 1) 1) [.string name] ∧ OwnL H' 64 pE 8 a n c (vs.set i ⟨v.kind, ⟨v.op.k, name, v.op.a, v.op.n, v.op.c⟩, v.an⟩) ∧ Vx.Frame a H H' := by
  obtain ⟨H', hw, how', hf⟩ := Owns.set pLen how (by omega) (i := (i : Int)) (by omega) (by omega) (⟨v.kind, ⟨v.op.k, name, v.op.a, v.op.n, v.op.c⟩, v.an⟩ : SpV)
  rw [Int.toNat_natCast] at how'
  have hrd := (how.rd (E := pE) (sz := 8) (by omega) pLen).at (i := (i : Int)) (by omega) (x := v) (by simpa using hv)
  have e2 : pE v = (pE v).take 2 ++ [(pE v)[2]'(by rw [pLen]; omega)] ++ (pE v).drop 3 := by simp
  have e1 : pE ⟨v.kind, ⟨v.op.k, name, v.op.a, v.op.n, v.op.c⟩, v.an⟩ = (pE v).take 2 ++ [.string name] ++ (pE v).drop 3 := by simp [pE]
  rw [e2] at hrd
  rw [e1] at hw
  have hl : ((pE v).take 2).length = 2 := by rw [List.length_take, pLen]; omega
  have := hw.part hrd rfl
  rw [hl] at this
  rw [fld_fld]
  exact ⟨H', this, how', hf⟩
theorem rOf_ok {H : PHeap} {a : Option Addr} {n c : Nat} {l : List EvX} (h : EvL H a n l) (hn : n ≤ 500) (name : ByteArray) {ds : List Fl} (hds : ds.length ≤ 1000) (hend : okAt l n → ∀ z, W (stsN l name n) c0 z → (z.p, z.d) ∈ ds) :
    Triple Tryz.prog 10 #[.slice a n c, .string name] H fun v H' => ∃ f, v = .pointer (at0 f) ∧ FoundK ds H H' f (OfA l name n) := by
  refine rOf.vc a n c name H _ fun f hf => (Triple.ro (F := H) (R := fun v F' => ∃ (u : SlV) (b : Bool), v = .tuple #[slV u, .bool b] ∧ (b = true ↔ okAt l n) ∧ (b = true → StepsK H F' u (stsAt l name n))) ((steps_ok h hn name).mono ?_) (Sub.upd _ hf)).mono ?_
  · rintro _ _ ⟨u, b, g1, g2, g3, g4⟩; exact ⟨⟨u, b, g1, g2, g4⟩, g3⟩
  rintro _ H2 ⟨F2, ⟨u, b, rfl, hb, hu⟩, st⟩
  have hbx := st.keep f _ (upd_eq ..) hf
  have hno : (!b) = true → ∀ e, ¬ OfA l name n e := fun eb e he => by have := hb.2 he.1; simp [this] at eb
  refine ⟨u.a, u.n, u.c, b, rfl, fun eb => ⟨f, rfl, st.fsub.trans st.sub, hf, false, false, none, 0, 0, [], hbx.1, .none _, Owns.nil _ _ _, by simp, ?_, ?_, ?_, ?_⟩, fun eb => ?_⟩
  · simp [hno eb]
  · simp [hno eb]
  · simp [hno eb]
  · exact fun z hz => (hno eb z hz).elim
  have bt : b = true := by simpa using eb
  have hok := hb.1 bt
  obtain ⟨F, vs, hs0, hs1, hoff, how, hst⟩ := (hu bt).out
  have hFf : F f = none := hs1.none hbx.2
  have hF2 := hs1.trans st.sub
  have how2 : OwnL H2 64 pE 8 u.a u.n u.c vs := how.mono fun a o _ ho => st.sub.le _ _ ho
  have hul : u.n ≤ 500 := by have h1 := stsAt_len (l := l) (name := name) n; have h2 := (how2.rd (E := pE) (sz := 8) (by omega) pLen).len; have := hst.1; omega
  have hxl : (stsAt l name n).length = u.n := by have h2 := (how2.rd (E := pE) (sz := 8) (by omega) pLen).len; have := hst.1; omega
  have huf : ∀ {H' : PHeap} {vs}, OwnL H' 64 pE 8 u.a u.n u.c vs → Bx H' f 43 [.bool false, .bool false, .slice none 0 0] → ∀ a, u.a = some a → a.block ≠ f := fun ho hb a ha e => by
    obtain ⟨c2, r2, q2⟩ := own_ty ho a ha
    unfold Bx at hb; rw [e, hb] at q2; injection q2 with e; injection e with _ e _; revert e; decide
  refine ⟨fun t H' => match t with | [.int _ i] => 0 ≤ i ∧ i ≤ u.n ∧ Bx H' f 43 [.bool false, .bool false, .slice none 0 0] ∧ Sub F H' ∧ ∃ vs, OwnL H' 64 pE 8 u.a u.n u.c vs ∧ SpsR F vs (nameAt name (stsAt l name n) i.toNat) | _ => False,
    fun t _ => match t with | [.int _ i] => (u.n - i).toNat | _ => 0, ⟨by omega, by omega, hbx.1, hF2, vs, how2, hst⟩, ?_⟩
  rintro i H3 ⟨i0, i1, hb3, hs3, vs3, how3, hst3⟩
  obtain ⟨i, rfl⟩ : ∃ j : Nat, i = j := ⟨i.toNat, by omega⟩
  rw [Int.toNat_natCast] at hst3
  have hr3 := how3.rd (E := pE) (sz := 8) (by omega) pLen
  refine ⟨fun hi => ?_, fun hi => ?_⟩
  · have hi' : i < u.n := by simpa using hi
    have ew : IntKind.i64.wrap ((i : Int) + 1) = (i : Int) + 1 := wrap64 (by omega) (by omega)
    have ei : ((i : Int) + 1).toNat = i + 1 := by omega
    rw [ew]
    obtain ⟨v, hv, hvr⟩ := hr3.ex (i := (i : Int)) (by omega) (by omega)
    rw [Int.toNat_natCast] at hv
    have hx : (nameAt name (stsAt l name n) i)[i]? = some (stsAt l name n)[i] := by rw [nameAt_get, if_neg (by omega)]; exact List.getElem?_eq_getElem (by omega)
    generalize (stsAt l name n)[i] = x at hx
    have hvx := hst3.2 i v x hv hx
    have hob := hr3.ob (i := (i : Int)) (by omega) (by omega)
    have hen := hr3.elem_ne (i := (i : Int)) (by omega) (by omega)
    have hrk : Reads H3 (fldA (elemA u.a (i : Int) 8) 0) [.int .i64 v.kind] := hvr.fld 0 fun j w hw => by
      match j, hw with
      | 0, hw => exact hw
      | j + 1, hw => simp at hw
    refine ⟨hob, ⟨hen⟩, v.kind, hrk, fun e1 => ⟨hob, ⟨hen⟩, ⟨by cases h : elemA u.a (i : Int) 8 with | none => exact absurd h hen | some q => simp [fldA]⟩, ?_⟩, fun e1 => ⟨⟨by omega, by omega, hb3, hs3, vs3, how3, ?_⟩, ⟨by simp only; omega⟩⟩⟩
    · obtain ⟨H4, hw4, how4, hf4⟩ := sp_put how3 hi' hv name
      refine ⟨H4, hw4, ⟨by omega, by omega, hf4.bx hb3 (huf how3 hb3), hf4.sub hs3 hoff, _, how4, ?_⟩, ⟨by simp only; omega⟩⟩
      rw [ei]
      refine hst3.set (i := i) (by have := hr3.len; omega) fun x' hx' => ?_
      rw [hx] at hx'; cases hx'
      have k3 : x.kind = 3 := by rw [← hvx.kind]; simpa using e1
      unfold nm
      rw [if_pos k3]
      exact ⟨hvx.kind, ⟨hvx.op.k, rfl, hvx.op.d⟩, hvx.an, hvx.small⟩
    · have k3 : ¬ x.kind = 3 := by rw [← hvx.kind]; simpa using e1
      rw [ei]
      have := hst3.set (i := i) (g := nm name) (v' := v) (by have := hr3.len; omega) fun x' hx' => by
        rw [hx] at hx'; cases hx'
        unfold nm
        rw [if_neg k3]
        exact hvx
      have e4 : vs3.set i v = vs3 := by obtain ⟨h1, h2⟩ := List.getElem?_eq_some_iff.1 hv; rw [← h2]; exact List.set_getElem_self h1
      rwa [e4] at this
  · have : ¬ i < u.n := by simpa using hi
    have ein : i = u.n := by omega
    rw [ein, nameAt_all (by omega)] at hst3
    obtain ⟨F3, hsF, hsb, hFf3, hrd⟩ : ∃ F3, Sub F F3 ∧ Sub F3 H3 ∧ F3 f = none ∧ RdL F3 pE 8 u.a u.n vs3 := by
      rcases how3.row with ⟨e1, e2, _⟩ | ⟨g, cur, e1, hg, _⟩
      · refine ⟨F, Sub.refl _, hs3, hFf, ?_⟩
        have : vs3 = [] := List.eq_nil_of_length_eq_zero (by have := hr3.len; omega)
        rw [this, e1, e2]; exact .nil _ _ _
      · have hgF : F g = none := hoff _ e1
        have hgf : f ≠ g := fun e => huf how3 hb3 _ e1 e.symm
        refine ⟨F.upd g (.cells cur 64 (0, 0)), Sub.upd _ hgF, ⟨fun q o hq => ?_⟩, by rw [Go.Vx.upd_ne _ _ hgf]; exact hFf, ?_⟩
        · by_cases eq : q = g
          · subst eq; rw [upd_eq] at hq; cases hq; exact hg
          · rw [Go.Vx.upd_ne _ _ eq] at hq; exact hs3.le _ _ hq
        · have how' : OwnL (F.upd g (.cells cur 64 (0, 0))) 64 pE 8 u.a u.n u.c vs3 := how3.mono fun a o ha ho => by rw [e1] at ha; cases ha; rw [hg] at ho; cases ho; exact upd_eq ..
          exact how'.rd (by omega) pLen
    have huc : u.n ≤ u.c := by rcases how3.row with ⟨_, h1, h2⟩ | ⟨_, _, _, _, h1, _⟩ <;> omega
    have hf0 : FoundK ds F3 H3 f (fun _ => False) := ⟨hsb, hFf3, false, false, none, 0, 0, [], hb3, .none _, Owns.nil _ _ _, by simp, by simp, by simp, by simp, by simp⟩
    refine (walk_ok hds 2000 (x := c0) (by omega) (by omega) hf0 hrd (hst3.mono hsF) huc (RdL.nil _ _ _) (Nat.le_refl 0) (hend hok)).mono ?_
    rintro _ H4 ⟨rfl, hf4⟩
    refine ⟨rfl, f, rfl, (hf4.weaken (hs0.trans hsF)).ext fun z => ?_⟩
    unfold Ends OfA stsN
    simp [hok]
end Go.Mdl
