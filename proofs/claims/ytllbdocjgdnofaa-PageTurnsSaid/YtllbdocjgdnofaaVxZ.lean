/- The executor's use: fields of variables, parts of the heap. -/
import Derived.Test.YtllbdocjgdnofaaVxX
import Derived.Test.YtllbdocjgdnofaaVxP
namespace Go.Vx

theorem Owns.blk {H : PHeap} {e : TypeId} {sz : Nat} {a : Addr} {n c : Nat} {xs : List Value} (h : Owns H e sz (some a) n c xs) : ∃ o, H a.block = some o := by
  rcases h.row with ⟨h1, _⟩ | ⟨g, cur, e1, hg, _⟩
  · cases h1
  · cases e1; exact ⟨_, hg⟩
theorem EvU.mono {P : Program} {s : Sem Unit} {H : PHeap} {K K' : PHeap → Prop} (h : EvU P s H K) (hk : ∀ H', K H' → K' H') : EvU P s H K' :=
  ⟨fun w hs => let ⟨w', H', h1, h2, h3⟩ := h.out w hs; ⟨w', H', h1, h2, hk _ h3⟩⟩
theorem obP (k : Nat) : Ob (at0 k ≠ none) := ⟨by simp [at0]⟩
/-- One proof for two places. -/
theorem both {T C : PHeap → Prop} {G : Prop} (use : (∀ a, C a → T a) → G) (key : ∀ a, C a → T a) : G := use key

/-! ### Fields of a variable -/
/-- The field at a place. -/
theorem Bx.fld {H : PHeap} {k : Nat} {t : TypeId} {l : List Value} (h : Bx H k t l) {i : Nat} {v : Value} (hv : l[i]? = some v) : Reads H (fldA (at0 k) i) [v] := h.readsAt i fun j u hu => by
  match j, hu with
  | 0, hu => simp at hu; subst hu; exact hv
  | j + 1, hu => simp at hu
theorem Bx.put {H : PHeap} {k : Nat} {t : TypeId} {l : List Value} (h : Bx H k t l) {i : Nat} {x : Value} (hi : i < l.length) : Writes H (H.upd k (.cells (l.set i x).toArray t (0, 0))) (fldA (at0 k) i) [x] := by
  have e : l.set i x = l.take i ++ [x] ++ l.drop (i + 1) := by rw [List.set_eq_take_append_cons_drop, if_pos hi]; simp
  have e2 : l = l.take i ++ [l[i]] ++ l.drop (i + 1) := by simp
  have hw := h.writes (l.set i x) (by simp)
  have hr := h.reads
  rw [e] at hw
  conv at hr => arg 3; rw [e2]
  have := hw.part hr rfl
  rw [List.length_take, Nat.min_eq_left (by omega)] at this
  rw [e]
  exact this

/-! ### Parts of the heap -/
/-- F, and what is new behind H in G. -/
def grow (F H G : PHeap) : PHeap := fun q => match H q with | some _ => F q | none => G q
theorem grow_le {F H G : PHeap} (h : Sub F H) : Sub F (grow F H G) := ⟨fun q o hq => by unfold grow; rw [h.le _ _ hq]; exact hq⟩
theorem grow_sub {F H G : PHeap} (h : Sub F H) (hg : Sub H G) : Sub (grow F H G) G := ⟨fun q o hq => by
  unfold grow at hq
  split at hq
  · exact hg.le _ _ (h.le _ _ hq)
  · exact hq⟩
theorem grow_new {F H G : PHeap} {q : Nat} {o : Obj} (hq : grow F H G q = some o) : F q = some o ∨ H q = none := by
  unfold grow at hq
  split at hq
  · exact .inl hq
  · rename_i h; exact .inr h
theorem grow_at {F H G : PHeap} {q : Nat} (h : H q = none) : grow F H G q = G q := by unfold grow; rw [h]
theorem grow_off {F H G : PHeap} {q : Nat} {o : Obj} (h : H q = some o) (hf : F q = none) : grow F H G q = none := by unfold grow; rw [h]; exact hf
theorem grow_own {F H G : PHeap} {e : TypeId} {sz : Nat} {oa : Option Addr} {n c : Nat} {xs : List Value} (h : Owns G e sz oa n c xs) (ho : Off H oa) : Owns (grow F H G) e sz oa n c xs := Owns.mono h fun a o ha hb => by rw [grow_at (ho a ha)]; exact hb
/-- All but some blocks. -/
def rest (H : PHeap) (ks : List Nat) : PHeap := fun q => if q ∈ ks then none else H q
theorem rest_at {H : PHeap} {ks : List Nat} {q : Nat} (h : q ∉ ks) : rest H ks q = H q := by unfold rest; rw [if_neg h]
theorem rest_none {H : PHeap} {ks : List Nat} {q : Nat} (h : q ∈ ks) : rest H ks q = none := by unfold rest; rw [if_pos h]
theorem rest_sub (H : PHeap) (ks : List Nat) : Sub (rest H ks) H := ⟨fun q o hq => by
  unfold rest at hq
  split at hq
  · cases hq
  · exact hq⟩
theorem rest_to {H H' : PHeap} {ks : List Nat} (h : ∀ q o, q ∉ ks → H q = some o → H' q = some o) : Sub (rest H ks) H' := ⟨fun q o hq => by
  unfold rest at hq
  split at hq
  · cases hq
  · rename_i hn; exact h q o hn hq⟩
theorem rest_le {F H : PHeap} {ks : List Nat} (h : Sub F H) (hk : ∀ q ∈ ks, F q = none) : Sub F (rest H ks) := ⟨fun q o hq => by
  rw [rest_at fun hm => by rw [hk q hm] at hq; cases hq]
  exact h.le _ _ hq⟩
theorem RdL.part {α : Type} {H F : PHeap} {E : α → List Value} {sz : Nat} {oa : Option Addr} {n : Nat} {l : List α} (h : RdL H E sz oa n l) (hs : ∀ a o, oa = some a → H a.block = some o → F a.block = some o) : RdL F E sz oa n l := by
  refine ⟨h.len, h.pos, fun i x hx => ?_⟩
  obtain ⟨a, ha, hg⟩ := (h.get i x hx).out
  refine ⟨⟨a, ha, fun j v hv => hcell_mono (fun o ho => ?_) (hg j v hv)⟩⟩
  cases oa with
  | none => simp [elemA] at ha
  | some a0 =>
    simp [elemA] at ha
    subst ha
    have e : ∀ (b : Addr) (m : Nat), (b.add m).block = b.block := fun b m => by unfold Addr.add; split <;> rfl
    rw [e, e] at ho ⊢
    exact hs a0 o rfl ho
/-- What is read lies where nothing else is written. -/
theorem RdL.rest {α : Type} {H : PHeap} {E : α → List Value} {sz : Nat} {oa : Option Addr} {n : Nat} {l : List α} (h : RdL H E sz oa n l) {ks : List Nat} (hs : ∀ a, oa = some a → a.block ∉ ks) : RdL (rest H ks) E sz oa n l :=
  h.part fun a o ha ho => by rw [rest_at (hs a ha)]; exact ho
theorem Off.ne {H : PHeap} {oa : Option Addr} (h : Off H oa) {k : Nat} {o : Obj} (hk : H k = some o) : ∀ a, oa = some a → a.block ≠ k := fun a ha e => by
  have := h a ha
  rw [e, hk] at this; cases this
theorem Off.sub {F H : PHeap} {oa : Option Addr} (h : Off H oa) (hs : Sub F H) : Off F oa := fun a ha => by
  cases hh : F a.block with
  | none => rfl
  | some o => have := h a ha; rw [hs.le _ _ hh] at this; cases this
theorem Sub.none {F H : PHeap} (hs : Sub F H) {k : Nat} (h : H k = .none) : F k = .none := by
  cases hh : F k with
  | none => rfl
  | some o => rw [hs.le _ _ hh] at h; cases h
/-! ### What a call does not know stays -/
theorem Triple.frame {P : Program} {f : FuncId} {args : Array Value} {G H : PHeap} {Q : Value → PHeap → Prop} (h : Triple P f args G Q) (hs : Sub G H) :
    Triple P f args H fun v H' => ∃ G', Q v G' ∧ Sub G' H' ∧ ∀ q o, H q = some o → G q = none → H' q = some o ∧ G' q = none := by
  refine ⟨fun w hw => ?_⟩
  have hwG : Sees G w := fun k o hk => hw k o (hs.le k o hk)
  refine (h.out w hwG).mono ?_
  rintro e w' ⟨v, G', he, hn, hq⟩
  have key : ∀ q o, H q = some o → G q = none → G' q = none := fun q o h1 h2 => by
    cases hh : G' q with
    | none => rfl
    | some o' =>
      rcases hn.fresh q (by rw [hh]; simp) with g | g
      · exact absurd h2 g
      · have := sees_lt hw h1; omega
  refine ⟨v, fun q => match H q, G q with | some o, none => some o | _, _ => G' q, he, ⟨hn.os, hn.tape, hn.output, hn.size, fun k hk h0 => ?_, fun k hk => ?_, fun k o hk => ?_⟩, G', hq, ⟨fun q o ho => ?_⟩, fun q o h1 h2 => ⟨by simp only [h1, h2], key q o h1 h2⟩⟩
  · exact hn.keep k hk (hs.none h0)
  · cases hH : H k with
    | some o => exact .inl (by simp)
    | none =>
      simp only [hH] at hk
      rcases hn.fresh k hk with g | g
      · exact absurd (hs.none hH) g
      · exact .inr g
  · cases hH : H k with
    | none =>
      simp only [hH] at hk
      exact hn.sees k o hk
    | some o1 =>
      cases hG : G k with
      | none =>
        simp only [hH, hG] at hk
        cases hk
        rw [hn.keep k (sees_lt hw hH) hG]
        exact hw k _ hH
      | some o2 =>
        simp only [hH, hG] at hk
        exact hn.sees k o hk
  · cases hH : H q with
    | none => exact ho
    | some o1 =>
      cases hG : G q with
      | none => rw [key q o1 hH hG] at ho; cases ho
      | some o2 => exact ho
/-! ### What is only read -/
/-- F is what is read, of all that is known, H; behind a step these are F' and H': what is known beside F stays, beside F'. -/
structure Stay (F H F' H' : PHeap) : Prop where
  fsub : Sub F F'
  sub : Sub F' H'
  keep : ∀ q o, H q = some o → F q = none → H' q = some o ∧ F' q = none
theorem Stay.refl {F H : PHeap} (h : Sub F H) : Stay F H F H := ⟨Sub.refl F, h, fun _ _ h1 h2 => ⟨h1, h2⟩⟩
theorem Stay.trans {F H F1 H1 F2 H2 : PHeap} (h : Stay F H F1 H1) (h' : Stay F1 H1 F2 H2) : Stay F H F2 H2 :=
  ⟨h.fsub.trans h'.fsub, h'.sub, fun q o h1 h2 => let ⟨a, b⟩ := h.keep q o h1 h2; h'.keep q o a b⟩
theorem Stay.hsub {F H F' H' : PHeap} (h : Stay F H F' H') (hs : Sub F H) : Sub H H' := ⟨fun q o hq => by
  cases hf : F q with
  | none => exact (h.keep q o hq hf).1
  | some o' =>
    have := hs.le _ _ hf
    rw [hq] at this
    injection this with e
    subst e
    exact h.sub.le _ _ (h.fsub.le _ _ hf)⟩
theorem Stay.none {F H F' H' : PHeap} (h : Stay F H F' H') {q : Nat} {o : Obj} (hq : H q = some o) (hf : F q = .none) : F' q = .none := (h.keep q o hq hf).2
theorem Stay.off {F H F' H' : PHeap} (h : Stay F H F' H') {oa : Option Addr} (ho : Off F oa) {e : TypeId} {sz n c : Nat} {xs : List Value} (hw : Owns H e sz oa n c xs) : Off F' oa := fun a ha => by
  subst ha
  obtain ⟨o, hb⟩ := hw.blk
  exact h.none hb (ho a rfl)
theorem Triple.ro {P : Program} {f : FuncId} {args : Array Value} {F H : PHeap} {R : Value → PHeap → Prop} (h : Triple P f args F fun v F' => R v F' ∧ Sub F F') (hs : Sub F H) :
    Triple P f args H fun v H' => ∃ F', R v F' ∧ Stay F H F' H' :=
  (h.frame hs).mono fun _ _ ⟨G', ⟨h1, h2⟩, h3, h4⟩ => ⟨G', h1, h2, h3, h4⟩
theorem Stay.alloc {F H : PHeap} {k : Nat} {o : Obj} (hs : Sub F H) (hk : H k = .none) : Stay F H F (H.upd k o) :=
  ⟨Sub.refl F, hs.trans (Sub.upd o hk), fun q o' h1 h2 => ⟨(Sub.upd o hk).le _ _ h1, h2⟩⟩
theorem Stay.allocR {F H : PHeap} {k : Nat} {o : Obj} (hs : Sub F H) (hk : H k = .none) : Stay F H (F.upd k o) (H.upd k o) := by
  refine ⟨Sub.upd o (hs.none hk), ⟨fun q o' hq => ?_⟩, fun q o' h1 h2 => ?_⟩
  · by_cases e : q = k
    · subst e; rw [upd_eq] at hq ⊢; exact hq
    · rw [Go.Vx.upd_ne _ _ e] at hq ⊢; exact hs.le _ _ hq
  · have e : q ≠ k := fun e => by rw [e, hk] at h1; cases h1
    rw [Go.Vx.upd_ne _ _ e, Go.Vx.upd_ne _ _ e]; exact ⟨h1, h2⟩
theorem Sub.wr {F H : PHeap} {b : Nat} {o : Obj} (h : Sub F H) (hb : F b = .none) : Sub F (H.upd b o) := Bx.sub_of h hb
theorem Frame.bx {H H' : PHeap} {b : Nat} {t : TypeId} {l : List Value} {oa : Option Addr} (hf : Frame oa H H') (h : Bx H b t l) (hn : ∀ a, oa = some a → a.block ≠ b) : Bx H' b t l := h.frame hf fun a ha e => hn a ha e.symm
theorem Fresh.ne {oa oa' : Option Addr} {H : PHeap} (h : Fresh oa oa' H) {b : Nat} {o : Obj} (hb : H b = some o) (hn : ∀ a, oa = some a → a.block ≠ b) : ∀ a, oa' = some a → a.block ≠ b := fun a ha e => by
  rcases h a ha with ⟨a0, h0, e0⟩ | hh
  · exact hn a0 h0 (e0.trans e)
  · rw [e, hb] at hh; cases hh
/-! ### Calls through an interface -/
def methB (P : Program) (t : TypeId) (name : String) (f : FuncId) (ptr : Bool) : Bool :=
  match P.info? t with
  | some i => match i.methods.find? (·.name == name) with
    | some m => m.path.isEmpty && match m.func with
      | some (g, p) => g == f && p == ptr
      | none => false
    | none => false
  | none => false
theorem methB_get {P : Program} {t : TypeId} {name : String} {f : FuncId} {ptr : Bool} (h : methB P t name f ptr = true) : ∃ i m, P.info? t = some i ∧ i.methods.find? (·.name == name) = some m ∧ m.path = #[] ∧ m.func = some (f, ptr) := by
  unfold methB at h
  split at h
  · rename_i i hi
    split at h
    · rename_i m hm
      simp only [Bool.and_eq_true] at h
      obtain ⟨h1, h2⟩ := h
      split at h2
      · rename_i g p hf
        simp only [Bool.and_eq_true, beq_iff_eq] at h2
        obtain ⟨rfl, rfl⟩ := h2
        exact ⟨i, m, hi, hm, by simpa using h1, hf⟩
      · cases h2
    · cases h
  · cases h
theorem run_wrap {P : Program} (ats : Array TypeId) (ty : TypeId) (a : Addr) (s m : ByteArray) (w : World) : (Builtin.ssaWrapNilChk_ ats ty #[.pointer (some a), .string s, .string m]).run P w = .ok (.pointer (some a)) w := rfl
theorem run_method {P : Program} {t e : TypeId} {name : String} {f : FuncId} {ptr : Bool} {v rv : Value} {w : World} (hm : methB P t name f ptr = true) (hu : P.underlying t = some (.pointer e))
    (h : (ptr = true ∧ rv = v) ∨ (ptr = false ∧ ∃ a, v = .pointer (some a) ∧ (loadVar e a).run P w = .ok rv w)) (n : Nat) : (method (n + 1) t v name).run P w = .ok (f, rv) w := by
  obtain ⟨i, m, hi, hf, hp, hfn⟩ := methB_get hm
  rcases h with ⟨rfl, rfl⟩ | ⟨rfl, a, rfl, hl⟩
  · simp [method, typeInfo, hi, hf, hp, hfn, follow, receiverAt, run_und hu, Place.get]
  · simp [method, typeInfo, hi, hf, hp, hfn, follow, receiverAt, run_und hu, Place.get, run_wrap, strVal, asAddr, hl]
theorem run_invoke {P : Program} {t e : TypeId} {name : String} {f : FuncId} {ptr : Bool} {v rv : Value} {args : Array Value} {w : World} (hm : methB P t name f ptr = true) (hu : P.underlying t = some (.pointer e)) (hg : goodF P f = true)
    (h : (ptr = true ∧ rv = v) ∨ (ptr = false ∧ ∃ a, v = .pointer (some a) ∧ (loadVar e a).run P w = .ok rv w)) : (invoke (.fn (.method name) #[]) (#[.iface t v] ++ args)).run P w = .ok (.enter f (#[rv] ++ args)) w := by
  have hsz : ∃ n, P.types.size + Made.depth = n + 1 := by
    have h0 : 0 < Made.depth := by decide
    generalize Made.depth = md at h0
    exact ⟨P.types.size + (md - 1), by omega⟩
  obtain ⟨n, hn⟩ := hsz
  have h0 : (#[Value.iface t v] ++ args)[0]? = some (.iface t v) := by rw [Array.getElem?_append_left (by simp)]; rfl
  have h1 : (#[Value.iface t v] ++ args).extract 1 (#[Value.iface t v] ++ args).size = args := by
    apply Array.ext'
    simp
  simp only [invoke, h0, h1, callMethod, Sem.run_bind, run_program, Result.andThen_ok, hn, run_method hm hu h n]
  exact run_callFunc hg
theorem CallI.ptr {P : Program} {t e : TypeId} {name : String} {f : FuncId} {v : Value} {args : Array Value} {H : PHeap} {Q : Value → PHeap → Prop} (hm : methB P t name f true = true) (hu : P.underlying t = some (.pointer e)) (hg : goodF P f = true)
    (h : Triple P f (#[v] ++ args) H Q) : CallI P (.iface t v) name args H Q :=
  ⟨fun w hs => ⟨f, #[v] ++ args, run_invoke hm hu hg (.inl ⟨rfl, rfl⟩), h.out w hs⟩⟩
theorem CallI.load {P : Program} {t e : TypeId} {name : String} {f : FuncId} {oa : Option Addr} {rv : Value} {args : Array Value} {H : PHeap} {Q : Value → PHeap → Prop} (hm : methB P t name f false = true) (hu : P.underlying t = some (.pointer e)) (ha : aggT P e = some false) (hg : goodF P f = true)
    (hr : Reads H oa [rv]) (h : Triple P f (#[rv] ++ args) H Q) : CallI P (.iface t (.pointer oa)) name args H Q :=
  ⟨fun w hs => by
    obtain ⟨a, ea, hr'⟩ := hr.out
    subst ea
    exact ⟨f, #[rv] ++ args, run_invoke hm hu hg (.inr ⟨rfl, a, rfl, (run_loadVar_reads (l := [rv]) hs hr').2 rv ha rfl⟩), h.out w hs⟩⟩
theorem assert_same {P : Program} {t u : TypeId} {x : Value} {d : TypeDesc} (hu : P.underlying t = some d) (hd : ∀ m, d ≠ .interface m) {H : PHeap} {K : Value → PHeap → Prop} (hK : K (.tuple #[x, .bool true]) H) : EvV P (Instr.typeAssert (.iface t x) u t true) H K :=
  ⟨fun w hs => ⟨_, w, H, by
    unfold Instr.typeAssert
    simp only [Sem.run_bind, run_und hu, Result.andThen_ok]
    cases d <;> first | (exact absurd rfl (hd _)) | simp, Nx.refl hs, hK⟩⟩
/-! ### What is read, with a slice that was written -/
theorem Frame.grab {F H H' : PHeap} {oa oa' : Option Addr} (hs : Sub F H) (hf : Frame oa H H') : ∃ F', Sub F' H' ∧ (∀ a, oa' = some a → F' a.block = H' a.block) ∧
    (∀ q, F q = none → (∀ a, oa' = some a → q ≠ a.block) → F' q = none) ∧ (∀ q o, F q = some o → (∀ a, oa = some a → q ≠ a.block) → F' q = some o) := by
  classical
  refine ⟨fun q => if (∃ a, oa' = some a ∧ q = a.block) then H' q else if (∃ a, oa = some a ∧ q = a.block) then none else F q, ⟨fun q o hq => ?_⟩, fun a ha => ?_, fun q hq hn => ?_, fun q o hq hn => ?_⟩
  · try dsimp only at hq
    split at hq
    · exact hq
    · split at hq
      · cases hq
      · rename_i h2
        exact hf q o (hs.le _ _ hq) fun a ha e => h2 ⟨a, ha, e⟩
  · show (if _ then _ else _) = _
    rw [if_pos ⟨a, ha, rfl⟩]
  · try dsimp only
    rw [if_neg (fun ⟨a, ha, e⟩ => hn a ha e)]
    split
    · rfl
    · exact hq
  · try dsimp only
    split
    · exact hf q o (hs.le _ _ hq) hn
    · rw [if_neg (fun ⟨a, ha, e⟩ => hn a ha e)]; exact hq
end Go.Vx
