/- The document's model: all that may be is walked: the contract. -/
import Derived.Test.YtlhnepjidbofnaaGreatDoorMdlR2
namespace Go.Mdl
open Go.Vx Go.Vc Go.Proofs Go.Txt

/-- What a step makes of a possibility. -/
noncomputable def sF (s : SpX) (x : Ch) : Option Ch :=
  if s.kind = 1 then some (addF (decide (s.op.k = 1), s.op.d) x) else if s.kind = 3 then fS s.an.names s.op.s x
  else if s.an.e = 9 then thereF x else if s.an.e = 10 then noneF x else if s.an.e = 0 then
    (if s.op.k = 2 then getF s.an.data x else if s.op.k = 5 then statF s.an.size x else if s.op.k = 1 then putF s.op.d x else if s.op.k = 3 then delF x else thereF x)
  else some x
def W : List SpX → Ch → Ch → Prop
  | [], x, z => Reach x z
  | s :: l, x, z => ∃ y, Reach x y ∧ ∃ g, sF s y = some g ∧ W l g z
theorem Reach.head {x y z : Ch} (h : y ∈ nextL x) (hr : Reach y z) : Reach x z := by
  induction hr with
  | refl => exact .step .refl h
  | step _ h2 ih => exact .step ih h2
theorem Reach.split {x z : Ch} (h : Reach x z) : z = x ∨ ∃ y ∈ nextL x, Reach y z := by
  induction h with
  | refl => exact .inl rfl
  | step h1 h2 ih =>
    rcases ih with rfl | ⟨y, hy, hr⟩
    · exact .inr ⟨_, h2, .refl⟩
    · exact .inr ⟨y, hy, .step hr h2⟩
theorem W_next {l : List SpX} {x y z : Ch} (h : y ∈ nextL x) (hw : W l y z) : W l x z := by
  cases l with
  | nil => exact Reach.head h hw
  | cons s l => obtain ⟨w, h1, h2⟩ := hw; exact ⟨w, Reach.head h h1, h2⟩
theorem W_nil {x z : Ch} : W [] x z ↔ (∃ y ∈ nextL x, W [] y z) ∨ z = x := by
  constructor
  · exact fun h => (Reach.split h).symm
  · rintro (⟨y, hy, h⟩ | rfl)
    · exact W_next hy h
    · exact .refl
theorem W_cons {s : SpX} {l : List SpX} {x z : Ch} : W (s :: l) x z ↔ (∃ y ∈ nextL x, W (s :: l) y z) ∨ ∃ g, sF s x = some g ∧ W l g z := by
  constructor
  · rintro ⟨w, h1, h2⟩
    rcases Reach.split h1 with rfl | ⟨y, hy, hr⟩
    · exact .inr h2
    · exact .inl ⟨y, hy, w, hr, h2⟩
  · rintro (⟨y, hy, h⟩ | h)
    · exact W_next hy h
    · exact ⟨x, .refl, h⟩
/-- A copy. -/
theorem copyK {t e : TypeId} {sz bytes : Nat} (T : ElemT Tryz.prog t e sz bytes) {α : Type} {E : α → List Value} (hE : ∀ x, (E x).length = sz) (h1 : ∀ x, ∀ u ∈ E x, u.oneCell' = true) {H : PHeap} {a : Option Addr} {n c : Nat} {vs : List α} (hr : RdL H E sz a n vs) (hn : n ≤ 100000) (hb : bytes ≤ 1000) {k : Nat} (hk : H k = none) {K : Value → PHeap → Prop}
    (hK : ∀ a' c' H', OwnL H' e E sz a' n c' vs → Sub H H' → Off H a' → K (.slice a' n c') H') : EvV Tryz.prog (Builtin.append_ #[t, t] t #[.slice (at0 k) 0 0, .slice a n c]) (H.upd k (.cells #[] e (0, 0))) K := by
  have hsk := Sub.upd (.cells #[] e (0, 0)) hk
  have hoffk : Off H (at0 k) := fun a ha => by cases ha; exact hk
  refine append_rd T (E := E) (sz := sz) (l := []) (l2 := vs) hE ⟨by simp, .inr ⟨k, #[], rfl, upd_eq .., Nat.le_refl _, Nat.zero_le _, by simp, by simp⟩⟩ (hr.mono hsk) h1 (by simp [maxLen]; omega) (Nat.le_trans (Nat.mul_le_mul (show 0 + n ≤ 100000 by omega) hb) (by omega)) ?_
  intro b k' H2 how hf hfr
  rw [List.nil_append] at how
  rw [Nat.zero_add] at how ⊢
  exact hK b k' H2 how (hf.sub hsk hoffk) (hfr.off hsk hoffk)
theorem tFlR : ElemT Tryz.prog 91 93 2 24 := .of (by kernel_rfl)
theorem fl_rd {H : PHeap} {a : Option Addr} {f : Fl} (h : Reads H a (fE f)) : Reads H (fldA a 0) [.bool f.1] ∧ Reads H (fldA a 1) [.string f.2] := by
  refine ⟨h.fld 0 fun j u hu => ?_, h.fld 1 fun j u hu => ?_⟩
  · match j, hu with
    | 0, hu => exact hu
    | j + 1, hu => simp at hu
  · match j, hu with
    | 0, hu => exact hu
    | j + 1, hu => simp at hu
def Ends (A : Fl → Prop) (l : List SpX) (x : Ch) (e : Fl) : Prop := A e ∨ ∃ z, W l x z ∧ e = (z.p, z.d)
theorem walk_ok {ds : List Fl} (hds : ds.length ≤ 1000) {f : Nat} : ∀ (N : Nat) {F H : PHeap} {A : Fl → Prop} {a : Option Addr} {n c : Nat} {vs : List SpV} {l : List SpX} {x : Ch} {b : Option Addr} {m k : Nat}, 2 * n + m < N → N ≤ 5000 → FoundK ds F H f A →
    RdL F pE 8 a n vs → SpsR F vs l → n ≤ c → RdL F fE 2 b m x.fl → m ≤ k → (∀ z, W l x z → (z.p, z.d) ∈ ds) →
    Triple Tryz.prog 23 #[.pointer (at0 f), .slice a n c, .bool x.p, .string x.d, .slice b m k] H fun v H' => v = .tuple #[] ∧ FoundK ds F H' f (Ends A l x)
  | 0, _, _, _, _, _, _, _, _, _, _, _, _, h, _, _, _, _, _, _, _, _ => by omega
  | N + 1, F, H, A, a, n, c, vs, l, x, b, m, k, hN, hN5, h, hl, hs, hnc, hfl, hmk, hend => by
    have ih := @walk_ok ds hds f N
    have hml := hfl.len
    have hnl := hl.len
    have hll := hs.1
    refine rWalk.vc (at0 f) a n c x.p x.d b m k H _ ⟨fun t H' => match t with | [.int _ i] => 0 ≤ i ∧ i ≤ m ∧ FoundK ds F H' f (fun e => A e ∨ ∃ y ∈ nextP x i.toNat, ∃ z, W l y z ∧ e = (z.p, z.d)) | _ => False, fun t _ => match t with | [.int _ i] => (m - i).toNat | _ => 0, ⟨by omega, by omega, h.ext fun z => by simp [nextP]⟩, ?_⟩
    rintro i H1 ⟨i0, i1, hf⟩
    obtain ⟨i, rfl⟩ : ∃ j : Nat, i = j := ⟨i.toNat, by omega⟩
    rw [Int.toNat_natCast] at hf
    refine ⟨fun hi => ?_, fun hi => ?_⟩
    · have hi' : i < m := by simpa using hi
      have ew : IntKind.i64.wrap ((i : Int) + 1) = (i : Int) + 1 := wrap64 (by omega) (by omega)
      have ei : ((i : Int) + 1).toNat = i + 1 := by omega
      rw [ew]
      obtain ⟨g, hg, hgr⟩ := hfl.ex (i := (i : Int)) (by omega) (by omega)
      rw [Int.toNat_natCast] at hg
      have hgf := fl_rd (hgr.mono hf.sub)
      have hob := hfl.ob (i := (i : Int)) (by omega) (by omega)
      have hen : Ob (elemA b (i : Int) 2 ≠ none) := ⟨hfl.elem_ne (by omega) (by omega)⟩
      have hgN : gN x i = if g.1 = x.p then none else some ⟨g.1, g.2, x.fl.eraseIdx i⟩ := by unfold gN; rw [hg]
      refine ⟨hob, hen, g.1, hgf.1, fun e1 => ⟨H1, Sub.refl _, ⟨by omega⟩, ⟨by omega⟩, fun k16 hk16 => ?_⟩, fun e1 => ⟨⟨by omega, by omega, ?_⟩, ⟨by simp only; omega⟩⟩⟩
      · have hne : ¬ g.1 = x.p := by simpa using e1
        rw [if_neg hne] at hgN
        have r1 : RdL H1 fE 2 (slA b 0 k 2) i (x.fl.take i) := by
          have := ((hfl.mono hf.sub).take (i := i) (by omega)).drop (i := 0) (c := k) (by omega) (by omega)
          simpa using this
        have r2 : RdL H1 fE 2 (slA b ((i : Int) + 1) k 2) (m - (i + 1)) (x.fl.drop (i + 1)) := by
          have := (hfl.mono hf.sub).drop (i := i + 1) (c := k) (by omega) (by omega)
          simpa using this
        refine copyK tFlR fLen fOne (c := k) r1 (by omega) (by omega) hk16 fun a2 c2 H2 how2 hs2 hof2 => ⟨a2, i, c2, rfl, append_rd tFlR fLen how2 (r2.mono hs2) fOne (by simp [maxLen]; omega) (by omega) fun a3 c3 H3 how3 hf3 hfr3 => ?_⟩
        have hs3 := hf3.sub hs2 hof2
        have hof3 := hfr3.off hs2 hof2
        have el : x.fl.take i ++ x.fl.drop (i + 1) = x.fl.eraseIdx i := (List.eraseIdx_eq_take_drop_succ ..).symm
        rw [el] at how3
        have hen3 : i + (m - (i + 1)) ≤ c3 := by rcases how3.row with ⟨_, h1, h2⟩ | ⟨_, _, _, _, h1, _⟩ <;> omega
        obtain ⟨F3, hsF, hf3, hr3⟩ := hf.grow hs3 fLen (by omega) how3 hof3
        have hgf3 := fl_rd ((hgr.mono hf.sub).mono hs3)
        refine ⟨a3, _, c3, rfl, H3, Sub.refl _, hob, hen, g.1, hgf3.1, hob, hen, g.2, hgf3.2, (ih (x := ⟨g.1, g.2, x.fl.eraseIdx i⟩) (by omega) (by omega) hf3 (hl.mono hsF) (hs.mono hsF) hnc hr3 hen3 fun z hz => hend z (W_next ?_ hz)).mono ?_⟩
        · unfold nextL nextP
          exact List.mem_filterMap.2 ⟨i, List.mem_range.2 (by omega), hgN⟩
        · rintro _ H4 ⟨rfl, hf4⟩
          refine ⟨rfl, ⟨by omega, by omega, (hf4.weaken hsF).ext fun z => ?_⟩, ⟨by simp only; omega⟩⟩
          unfold Ends
          rw [ei, nextP_succ, hgN]
          simp only [Option.toList, List.mem_append, List.mem_singleton]
          constructor
          · rintro ((h | ⟨y, hy, h⟩) | h)
            · exact .inl h
            · exact .inr ⟨y, .inl hy, h⟩
            · exact .inr ⟨_, .inr rfl, h⟩
          · rintro (h | ⟨y, hy | rfl, h⟩)
            · exact .inl (.inl h)
            · exact .inl (.inr ⟨y, hy, h⟩)
            · exact .inr h
      · have hne : g.1 = x.p := by simpa using e1
        rw [if_pos hne] at hgN
        rw [ei, nextP_succ, hgN]
        simpa using hf
    · have : ¬ i < m := by simpa using hi
      have him : i = x.fl.length := by omega
      rw [him] at hf
      have hf : FoundK ds F H1 f (fun e => A e ∨ ∃ y ∈ nextL x, ∃ z, W l y z ∧ e = (z.p, z.d)) := hf
      refine ⟨fun e1 => ?_, fun e1 => ?_⟩
      · have hn0 : n = 0 := by simpa using e1
        have hl0 : l = [] := List.eq_nil_of_length_eq_zero (by omega)
        subst hl0
        refine (found_ok hf hds (p := x.p) (d := x.d) (hend x .refl)).mono ?_
        rintro _ H2 ⟨rfl, hf2⟩
        refine ⟨rfl, rfl, hf2.ext fun z => ?_⟩
        unfold Ends
        constructor
        · rintro ((h | ⟨y, hy, z', h, e⟩) | e)
          · exact .inl h
          · exact .inr ⟨z', W_next hy h, e⟩
          · exact .inr ⟨x, .refl, e⟩
        · rintro (h | ⟨z', h, e⟩)
          · exact .inl (.inl h)
          · rcases W_nil.1 h with ⟨y, hy, h⟩ | rfl
            · exact .inl (.inr ⟨y, hy, z', h, e⟩)
            · exact .inr e
      · have hn0 : n ≠ 0 := by simpa using e1
        obtain ⟨s, l', rfl⟩ : ∃ s l', l = s :: l' := by
          cases l with
          | nil => rw [hnl] at hll; simp at hll; omega
          | cons s l' => exact ⟨s, l', rfl⟩
        obtain ⟨v, vs', rfl⟩ : ∃ v vs', vs = v :: vs' := by
          cases vs with
          | nil => simp at hll
          | cons v vs' => exact ⟨v, vs', rfl⟩
        have hv : SpR F v s := hs.2 0 v s rfl rfl
        have hs' : SpsR F vs' l' := ⟨by simpa using hll, fun j u y hu hy => hs.2 (j + 1) u y (by simpa using hu) (by simpa using hy)⟩
        have hv1 := hv.mono hf.sub
        have hr0 : Reads H1 (elemA a 0 8) (pE v) := ((hl.mono hf.sub).at (i := 0) (by omega) (x := v) rfl)
        have hl' : RdL F pE 8 (slA a 1 c 8) (n - 1) vs' := by
          have := hl.drop (i := 1) (c := c) (by omega) hnc
          simpa using this
        have hob := hl.ob (i := 0) (by omega) (by omega)
        have hob1 : Ob ((0 : Int) ≤ 1 ∧ 1 ≤ (n : Int) ∧ (n : Int) ≤ (c : Int)) := ⟨by omega⟩
        -- what the end is
        have stop : ∀ {H2 : PHeap}, H2 = H1 → sF s x = none → Value.tuple #[] = Value.tuple #[] ∧ FoundK ds F H2 f (Ends A (s :: l') x) := fun e hsf => by
          subst e
          refine ⟨rfl, hf.ext fun z => ?_⟩
          unfold Ends
          constructor
          · rintro (h | ⟨y, hy, z', h, e⟩)
            · exact .inl h
            · exact .inr ⟨z', W_next hy h, e⟩
          · rintro (h | ⟨z', h, e⟩)
            · exact .inl h
            · rcases W_cons.1 h with ⟨y, hy, h⟩ | ⟨g, hg, _⟩
              · exact .inr ⟨y, hy, z', h, e⟩
              · rw [hsf] at hg; cases hg
        have on : ∀ {g : Ch}, sF s x = some g → ∀ {F2 H2 H3 : PHeap}, Sub F F2 → FoundK ds F2 H3 f (Ends (fun e => A e ∨ ∃ y ∈ nextL x, ∃ z, W (s :: l') y z ∧ e = (z.p, z.d)) l' g) → FoundK ds F H3 f (Ends A (s :: l') x) := fun {g} hsf {F2 H2 H3} hsF hf3 => by
          refine (hf3.weaken hsF).ext fun z => ?_
          unfold Ends
          constructor
          · rintro ((h | ⟨y, hy, z', h, e⟩) | ⟨z', h, e⟩)
            · exact .inl h
            · exact .inr ⟨z', W_next hy h, e⟩
            · exact .inr ⟨z', W_cons.2 (.inr ⟨g, hsf, h⟩), e⟩
          · rintro (h | ⟨z', h, e⟩)
            · exact .inl (.inl h)
            · rcases W_cons.1 h with ⟨y, hy, h⟩ | ⟨g', hg, h⟩
              · exact .inl (.inr ⟨y, hy, z', h, e⟩)
              · rw [hsf] at hg; cases hg; exact .inr ⟨z', h, e⟩
        have hend' : ∀ {g : Ch}, sF s x = some g → ∀ z, W l' g z → (z.p, z.d) ∈ ds := fun hsf z hz => hend z (W_cons.2 (.inr ⟨_, hsf, hz⟩))
        -- the next step, with the same floats
        have go : ∀ {H2 : PHeap} {p' : Bool} {d' : ByteArray}, H2 = H1 → sF s x = some ⟨p', d', x.fl⟩ → Ob ((0 : Int) ≤ 1 ∧ 1 ≤ (n : Int) ∧ (n : Int) ≤ (c : Int)) ∧
            Triple Tryz.prog 23 #[.pointer (at0 f), .slice (slA a 1 c 8) ((n : Int).toNat - Int.toNat 1) (c - Int.toNat 1), .bool p', .string d', .slice b m k] H2 fun v H' => v = .tuple #[] ∧ (Value.tuple #[] = Value.tuple #[] ∧ FoundK ds F H' f (Ends A (s :: l') x)) := fun {H2 p' d'} e hsf => by
          subst e
          refine ⟨hob1, (ih (x := ⟨p', d', x.fl⟩) (n := n - 1) (c := c - 1) (by omega) (by omega) hf hl' hs' (by omega) hfl hmk (hend' hsf)).mono ?_⟩
          rintro _ H3 ⟨rfl, hf3⟩
          exact ⟨rfl, rfl, on hsf (H2 := H3) (Sub.refl _) hf3⟩
        have hvk := hv.kind
        have hok := hv.op.k
        have hos := hv.op.s
        have hae := hv.an.e
        have has := hv.an.size
        refine ⟨⟨hob.out.1, by omega, by omega⟩, v.kind, v.op.k, v.op.s, v.op.a, v.op.n, v.op.c, v.an.e, v.an.size, v.an.d.a, v.an.d.n, v.an.d.c, v.an.n.a, v.an.n.n, v.an.n.c, hr0, fun e2 => ?_, fun e2 => ⟨fun e3 => ?_, fun e3 => ?_⟩⟩
        · -- it floats from now on
          have hsf : sF s x = some (addF (decide (s.op.k = 1), s.op.d) x) := by unfold sF; rw [if_pos (by rw [← hvk]; simpa using e2)]
          refine str_of hv1.op.d ⟨s.op.d, rfl, H1, Sub.refl _, hob1, fun k52 hk52 => ⟨Sub.upd _ hk52, copyK tFlR fLen fOne (hfl.mono hf.sub) (by omega) (by omega) hk52 fun a2 c2 H2 how2 hs2 hof2 => ⟨a2, m, c2, rfl, hs2, fun k58 hk58 => ?_⟩⟩⟩
          refine append_one tFlR (E := fE) (x := (v.op.k == 1, s.op.d)) hk58 fLen how2 rfl (fOne _) (by simp [maxLen]; omega) (by omega) ?_
          intro a3 c3 H3 how3 hf3 hfr3 _
          have hs3 := hf3.sub hs2 hof2
          have hof3 := hfr3.off hs2 hof2
          have hen3 : m + 1 ≤ c3 := by rcases how3.row with ⟨_, h1, h2⟩ | ⟨_, _, _, _, h1, _⟩ <;> omega
          obtain ⟨F3, hsF, hF3, hr3⟩ := hf.grow hs3 fLen (by omega) how3 hof3
          have eg : x.fl ++ [(v.op.k == 1, s.op.d)] = (addF (decide (s.op.k = 1), s.op.d) x).fl := by rw [hok]; rfl
          rw [eg] at hr3
          refine ⟨a3, m + 1, c3, rfl, (ih (x := addF (decide (s.op.k = 1), s.op.d) x) (n := n - 1) (c := c - 1) (by omega) (by omega) hF3 (hl'.mono hsF) (hs'.mono hsF) (by omega) hr3 hen3 (hend' hsf)).mono ?_⟩
          rintro _ H4 ⟨rfl, hf4⟩
          exact ⟨rfl, rfl, on hsf (H2 := H4) hsF hf4⟩
        · have k1 : ¬ s.kind = 1 := by rw [← hvk]; simpa using e2
          have k3 : s.kind = 3 := by rw [← hvk]; simpa using e3
          have hsf : sF s x = fS s.an.names s.op.s x := by unfold sF; rw [if_neg k1, if_pos k3]
          have hen0 : elemA a 0 8 ≠ none := hl.elem_ne (by omega) (by omega)
          have hr01 : Reads H1 (fldA (elemA a 0 8) 1) [.int .i64 v.op.k, .string v.op.s] := hr0.fld 1 fun j u hu => by
            match j, hu with
            | 0, hu => exact hu
            | 1, hu => exact hu
            | j + 2, hu => simp at hu
          have hr1 : Reads H1 (fldA (fldA (elemA a 0 8) 1) 1) [.string v.op.s] := hr01.fld 1 fun j u hu => by
            match j, hu with
            | 0, hu => exact hu
            | j + 1, hu => simp at hu
          refine ⟨H1, Sub.refl _, ⟨hob.out.1, by omega, by omega⟩, ⟨hen0⟩, ⟨by cases h : elemA a 0 8 with | none => exact absurd h hen0 | some q => simp [fldA]⟩, v.op.s, hr1, (listed_ok hv1.an (by have := hv.small; omega) v.op.s).mono ?_⟩
          rintro _ _ ⟨r, rfl, hr, rfl⟩
          rw [hos] at hr
          refine ⟨r, rfl, fun e4 => go rfl ?_, fun e4 => stop rfl ?_⟩
          · have e4 : x.p = r := by simpa using e4
            rw [hsf]; unfold fS thereF noneF
            by_cases hm : s.op.s ∈ s.an.names
            · rw [if_pos hm, if_pos (e4.trans (hr.2 hm))]
            · have : r = false := by cases r <;> simp_all
              rw [if_neg hm, if_neg (by rw [e4, this]; simp)]
          · have e4 : ¬ x.p = r := by simpa using e4
            rw [hsf]; unfold fS thereF noneF
            by_cases hm : s.op.s ∈ s.an.names
            · rw [if_pos hm]; rw [hr.2 hm] at e4; simp [e4]
            · have : r = false := by cases r <;> simp_all
              rw [if_neg hm]; rw [this] at e4; simp [e4]
        · have k1 : ¬ s.kind = 1 := by rw [← hvk]; simpa using e2
          have k3 : ¬ s.kind = 3 := by rw [← hvk]; simpa using e3
          have hsf : sF s x = if s.an.e = 9 then thereF x else if s.an.e = 10 then noneF x else if s.an.e = 0 then
              (if s.op.k = 2 then getF s.an.data x else if s.op.k = 5 then statF s.an.size x else if s.op.k = 1 then putF s.op.d x else if s.op.k = 3 then delF x else thereF x)
            else some x := by unfold sF; rw [if_neg k1, if_neg k3]
          have hq : eqS x.d s.an.data = decide (x.d = s.an.data) := by
            cases hq : eqS x.d s.an.data with
            | true => exact (decide_eq_true (eqS_iff.1 hq)).symm
            | false => exact (decide_eq_false (eqS_false.1 hq)).symm
          have eta : ∀ p d, x.p = p → x.d = d → some x = some ⟨p, d, x.fl⟩ := by rintro _ _ rfl rfl; rfl
          refine ⟨fun a9 => ⟨fun b1 => go rfl ?_, fun b1 => stop rfl ?_⟩, fun a9 => ⟨fun a10 => ⟨fun b1 => go rfl ?_, fun b1 => stop rfl ?_⟩, fun a10 => ⟨fun a0 => ⟨fun c2 =>
            ⟨fun b1 => str_of hv1.an.data ⟨s.an.data, rfl, fun c1 => str_of hv1.op.d ⟨s.op.d, rfl, fun d1 => go rfl ?_, fun d1 => stop rfl ?_⟩, fun c1 => ⟨fun d1 => go rfl ?_, fun d1 => stop rfl ?_⟩⟩,
             fun b1 => ⟨fun c1 => str_of hv1.op.d ⟨s.op.d, rfl, fun d1 => go rfl ?_, fun d1 => stop rfl ?_⟩, fun c1 => ⟨fun d1 => go rfl ?_, fun d1 => stop rfl ?_⟩⟩⟩,
            fun c2 => ⟨fun c1 => str_of hv1.op.d ⟨s.op.d, rfl, fun d1 => go rfl ?_, fun d1 => stop rfl ?_⟩, fun c1 => ⟨fun d1 => go rfl ?_, fun d1 => stop rfl ?_⟩⟩⟩, fun a0 => go rfl ?_⟩⟩⟩
          all_goals rw [hae] at a9
          all_goals try rw [hae] at a10
          all_goals try rw [hae] at a0
          all_goals try rw [hok] at c2
          all_goals try rw [hok] at c1
          all_goals try rw [hok] at d1
          all_goals rw [hsf]
          all_goals simp only [thereF, noneF, getF, statF, putF, delF, Bool.cond_eq_ite]
          all_goals try simp only [Bool.cond_eq_ite] at d1
          all_goals try rw [hq] at d1
          all_goals try rw [has] at d1
          all_goals try grind
          all_goals (refine Eq.trans (b := some x) ?_ (eta _ _ rfl rfl); grind)
end Go.Mdl
