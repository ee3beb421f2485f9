/- Gathering: the state in memory, Know, Take, Forget, Done. -/
import Derived.Test.YtcdgeeakfoofpabGatA
import Derived.Test.YtcdgeeakfoofpabShelf
namespace Go.Gat
open Go.Vx Go.Vc Go.Proofs Go.Pak

abbrev iV : Int → Value := Value.int .i64
abbrev sV : BS → Value := fun s => .slice s.oa s.n s.c
abbrev s0 : BS := ⟨none, 0, 0, []⟩
theorem mapT : MapT Try.prog 25 iV (sV s0) := ⟨3, 32, .int .i64, by kernel_rfl, by kernel_rfl, by kernel_rfl, fun _ => rfl, fun a b h => by injection h⟩
theorem getD_sV (o : Option BS) : (o.map sV).getD (sV s0) = sV (o.getD s0) := by cases o <;> rfl
theorem _root_.Go.Vx.Owns.blk {H : PHeap} {e : TypeId} {sz : Nat} {a : Addr} {n c : Nat} {xs : List Value} (h : Owns H e sz (some a) n c xs) : ∃ o, H a.block = some o := by
  rcases h.row with ⟨h1, _⟩ | ⟨g, cur, e1, hg, _⟩
  · cases h1
  · cases e1; exact ⟨_, hg⟩

theorem evU_mono {P : Program} {s : Sem Unit} {H : PHeap} {K K' : PHeap → Prop} (h : EvU P s H K) (hk : ∀ H', K H' → K' H') : EvU P s H K' :=
  ⟨fun w hs => let ⟨w', H', h1, h2, h3⟩ := h.out w hs; ⟨w', H', h1, h2, hk _ h3⟩⟩

/-! ### What does not change -/
/-- F, and what is new behind H in G. -/
def grow (F H G : PHeap) : PHeap := fun q => match H q with | some _ => F q | none => G q
theorem grow_le {F H G : PHeap} (h : Sub F H) : Sub F (grow F H G) := ⟨fun q o hq => by unfold grow; rw [h.le _ _ hq]; exact hq⟩
theorem grow_sub {F H G : PHeap} (h : Sub F H) (hg : Sub H G) : Sub (grow F H G) G := ⟨fun q o hq => by
  unfold grow at hq
  split at hq
  · exact hg.le _ _ (h.le _ _ hq)
  · exact hq⟩
theorem grow_new {F H G : PHeap} {q : Nat} {o : Obj} (hq : grow F H G q = some o) : F q = some o ∨ H q = none := by
  unfold grow at hq
  split at hq
  · exact .inl hq
  · rename_i h; exact .inr h
theorem grow_at {F H G : PHeap} {q : Nat} (h : H q = none) : grow F H G q = G q := by unfold grow; rw [h]
theorem grow_off {F H G : PHeap} {q : Nat} {o : Obj} (h : H q = some o) (hf : F q = none) : grow F H G q = none := by unfold grow; rw [h]; exact hf
theorem grow_own {F H G : PHeap} {e : TypeId} {sz : Nat} {oa : Option Addr} {n c : Nat} {xs : List Value} (h : Owns G e sz oa n c xs) (ho : Off H oa) : Owns (grow F H G) e sz oa n c xs := Owns.mono h fun a o ha hb => by rw [grow_at (ho a ha)]; exact hb
/-- What a step leaves: all that is not its own; what is new there is new. -/
structure Keep (k : Nat) (gm gm' : Option Nat) (F F' H H' : PHeap) : Prop where
  le : Sub F F'
  new : ∀ q o, F' q = some o → F q = some o ∨ H q = none
  keep : ∀ q o, H q = some o → q ≠ k → gm ≠ some q → H' q = some o
  dom : ∀ q, H' q = none → H q = none
  mp : ∀ b, gm' = some b → gm = some b ∨ H b = none
theorem Keep.refl (k : Nat) (gm : Option Nat) (F H : PHeap) : Keep k gm gm F F H H := ⟨Sub.refl _, fun _ _ h => .inl h, fun _ _ h _ _ => h, fun _ h => h, fun _ h => .inl h⟩
theorem Keep.trans {k : Nat} {g1 g2 g3 : Option Nat} {F1 F2 F3 H1 H2 H3 : PHeap} (a : Keep k g1 g2 F1 F2 H1 H2) (b : Keep k g2 g3 F2 F3 H2 H3) : Keep k g1 g3 F1 F3 H1 H3 := by
  refine ⟨a.le.trans b.le, fun q o hq => ?_, fun q o hq h1 h2 => b.keep q o (a.keep q o hq h1 h2) h1 fun e => ?_, fun q hq => a.dom q (b.dom q hq), fun q hq => ?_⟩
  · rcases b.new q o hq with h | h
    · exact a.new q o h
    · exact .inr (a.dom q h)
  · rcases a.mp q e with h | h
    · exact h2 h
    · rw [hq] at h; cases h
  · rcases b.mp q hq with h | h
    · exact a.mp q h
    · exact .inr (a.dom q h)
/-- The block k holds a gathering, apart from F, which holds what it reads. -/
structure GaS (F H : PHeap) (k : Nat) (gm : Option Nat) (kn : Bool) (who : List Int) (got : List (Int × BS)) : Prop where
  sub : Sub F H
  off : F k = none
  row : ∃ oa n c, Bx H k 27 [.bool kn, .slice oa n c, .map gm] ∧ RdL F iE 1 oa n who ∧ n ≤ 100
  map : (gm = none ∧ got = []) ∨ ∃ gb, gm = some gb ∧ Mp H gb iV sV got ∧ F gb = none ∧ gb ≠ k
  ok : ∀ x ∈ got, OkB F x.2
theorem GaS.mono {F H H' : PHeap} {k : Nat} {gm : Option Nat} {kn : Bool} {who : List Int} {got : List (Int × BS)} (h : GaS F H k gm kn who got) (hs : Sub H H') : GaS F H' k gm kn who got := by
  obtain ⟨oa, n, c, h1, h2⟩ := h.row
  refine ⟨h.sub.trans hs, h.off, ⟨oa, n, c, h1.sub hs, h2⟩, ?_, h.ok⟩
  rcases h.map with h3 | ⟨gb, e, h3, h4⟩
  · exact .inl h3
  · exact .inr ⟨gb, e, h3.mono fun o ho => hs.le _ _ ho, h4⟩
theorem GaS.some_k {F H : PHeap} {k : Nat} {gm : Option Nat} {kn : Bool} {who : List Int} {got : List (Int × BS)} (h : GaS F H k gm kn who got) : ∃ o, H k = some o := by
  obtain ⟨oa, n, c, h1, h2⟩ := h.row
  exact ⟨_, h1⟩
theorem neP (k : Nat) : Ob (at0 k ≠ none) := ⟨by simp [at0]⟩
section
variable {H : PHeap} {k : Nat} {t : TypeId} {a b c : Value}
theorem _root_.Go.Vx.Bx.r0 (h : Bx H k t [a, b, c]) : Reads H (fldA (at0 k) 0) [a] := h.readsAt 0 fun j v hv => by
  match j, hv with
  | 0, hv => simpa using hv
  | j + 1, hv => simp at hv
theorem _root_.Go.Vx.Bx.r1 (h : Bx H k t [a, b, c]) : Reads H (fldA (at0 k) 1) [b] := h.readsAt 1 fun j v hv => by
  match j, hv with
  | 0, hv => simpa using hv
  | j + 1, hv => simp at hv
theorem _root_.Go.Vx.Bx.r2 (h : Bx H k t [a, b, c]) : Reads H (fldA (at0 k) 2) [c] := h.readsAt 2 fun j v hv => by
  match j, hv with
  | 0, hv => simpa using hv
  | j + 1, hv => simp at hv
theorem _root_.Go.Vx.Bx.w0 (h : Bx H k t [a, b, c]) (x : Value) : Writes H (H.upd k (.cells [x, b, c].toArray t (0, 0))) (fldA (at0 k) 0) [x] :=
  (h.writes [x, b, c] rfl).part (A := []) (l2 := [x]) (B := [b, c]) (old := [a]) h.reads rfl
theorem _root_.Go.Vx.Bx.w1 (h : Bx H k t [a, b, c]) (x : Value) : Writes H (H.upd k (.cells [a, x, c].toArray t (0, 0))) (fldA (at0 k) 1) [x] :=
  (h.writes [a, x, c] rfl).part (A := [a]) (l2 := [x]) (B := [c]) (old := [b]) h.reads rfl
theorem _root_.Go.Vx.Bx.w2 (h : Bx H k t [a, b, c]) (x : Value) : Writes H (H.upd k (.cells [a, b, x].toArray t (0, 0))) (fldA (at0 k) 2) [x] :=
  (h.writes [a, b, x] rfl).part (A := [a, b]) (l2 := [x]) (B := []) (old := [c]) h.reads rfl
end
/-- A new gathering. -/
theorem GaS.new (H : PHeap) {k : Nat} (hk : H k = none) : GaS H (H.upd k (.cells #[.bool false, .slice none 0 0, .map none] 27)) k none false [] [] :=
  ⟨Sub.upd _ hk, hk, ⟨none, 0, 0, Bx.new H k _ _, RdL.nil _ _ _, by omega⟩, .inl ⟨rfl, rfl⟩, by simp⟩
/-- What is at a key. -/
theorem look_ok {F H G : PHeap} {k : Nat} {gm : Option Nat} {kn : Bool} {who : List Int} {got : List (Int × BS)} (h : GaS F H k gm kn who got) (hs : Sub H G) {i : Int} {ok : Bool} {K : Value → Prop}
    (hK : K (if ok then .tuple #[sV ((mlook got i).getD s0), .bool (mlook got i).isSome] else sV ((mlook got i).getD s0))) : LookV Try.prog (Instr.lookup 25 (.map gm) (.int .i64 i) ok) G K := by
  rcases h.map with ⟨rfl, rfl⟩ | ⟨gb, rfl, h3, h4⟩
  · exact map_get_nil mapT hK
  · refine map_get mapT (h3.mono fun o ho => hs.le _ _ ho) ?_
    rw [getD_sV]; exact hK

/-! ### Known, Know, Forget -/
theorem some_ok {F H : PHeap} {k : Nat} {gm : Option Nat} {kn : Bool} {who : List Int} {got : List (Int × BS)} (h : GaS F H k gm kn who got) :
    Triple Try.prog 21 #[.pointer (at0 k), .func (.func 22) #[] #[]] H fun v H' => v = .bool (!kn) ∧ H' = H := by
  obtain ⟨oa, n, c, h1, h2⟩ := h.row
  refine some.vc (at0 k) _ H _ ⟨fun _ => CallY.fn (by kernel_rfl) ?_, fun e => by simp [at0] at e⟩
  exact unknown.vc (at0 k) H _ ⟨neP k, neP k, kn, h1.r0, _, rfl, rfl, rfl⟩
theorem some_nil (H : PHeap) (f : Value) : Triple Try.prog 21 #[.pointer none, f] H fun v H' => v = .bool false ∧ H' = H :=
  some.vc none _ H _ ⟨fun e => by simp at e, fun _ => ⟨rfl, rfl⟩⟩
theorem known_ok {F H : PHeap} {k : Nat} {gm : Option Nat} {kn : Bool} {who : List Int} {got : List (Int × BS)} (h : GaS F H k gm kn who got) :
    Triple Try.prog 15 #[.pointer (at0 k)] H fun v H' => v = .bool kn ∧ H' = H := by
  refine known.vc (at0 k) H _ ⟨fun _ => (some_ok h).mono ?_, fun e => by simp [at0] at e⟩
  rintro _ _ ⟨rfl, rfl⟩
  exact ⟨_, rfl, by simp, rfl⟩
theorem known_nil (H : PHeap) : Triple Try.prog 15 #[.pointer none] H fun v H' => v = .bool false ∧ H' = H :=
  known.vc none H _ ⟨fun e => by simp at e, fun _ => ⟨rfl, rfl⟩⟩
theorem know_ok {F H : PHeap} {k : Nat} {gm : Option Nat} {kn : Bool} {who l : List Int} {got : List (Int × BS)} {oa : Option Addr} {n c : Nat} (h : GaS F H k gm kn who got) (hl : RdL H iE 1 oa n l) (hn : n ≤ 100) :
    Triple Try.prog 8 #[.pointer (at0 k), .slice oa n c] H fun v H' => v = .bool (!kn) ∧ ∃ F', Keep k gm gm F F' H H' ∧ GaS F' H' k gm true (if kn then who else l) got := by
  refine know.vc (at0 k) oa n c H _ ((some_ok h).mono ?_)
  rintro _ H ⟨rfl, rfl⟩
  refine ⟨_, rfl, fun e => ?_, fun e => (cloneI_ok hl (by omega)).mono ?_⟩
  · have e' : kn = true := by simpa using e
    subst e'
    exact ⟨rfl, F, Keep.refl .., h⟩
  · have e' : kn = false := by simpa using e
    subst e'
    rintro _ H1 ⟨b, q, rfl, g1, g2, g3⟩
    obtain ⟨o0, hk⟩ := h.some_k
    have hR := h.mono g2
    obtain ⟨pa, m, d, h1, h2, h3⟩ := hR.row
    have h1' := Bx.new H1 k 27 [.bool true, .slice pa m d, .map gm]
    refine ⟨b, n, q, rfl, neP k, neP k, _, h1.w0 (.bool true), neP k, neP k, _, h1'.w1 (.slice b n q), rfl, grow F H H1, ?_, ?_⟩
    · refine ⟨grow_le h.sub, fun q o hq => grow_new hq, fun q o hq hqk _ => ?_, fun q hq => ?_, fun _ e => .inl e⟩
      · rw [Vx.upd_ne _ _ hqk, Vx.upd_ne _ _ hqk]; exact g2.le _ _ hq
      · by_cases e : q = k
        · subst e; rw [upd_eq] at hq; cases hq
        · rw [Vx.upd_ne _ _ e, Vx.upd_ne _ _ e] at hq
          cases hh : H q with
          | none => rfl
          | some o => rw [g2.le _ _ hh] at hq; cases hq
    · refine ⟨Bx.sub_of (Bx.sub_of (grow_sub h.sub g2) (grow_off hk h.off)) (grow_off hk h.off), grow_off hk h.off, ⟨b, n, q, Bx.new _ k _ _, ?_, hn⟩, ?_, fun x hx => (h.ok x hx).mono (grow_le h.sub)⟩
      · exact (grow_own g1 g3).rd (E := iE) (sz := 1) (by omega) iLen
      · rcases h.map with h4 | ⟨gb, e, h4, h5, h6⟩
        · exact .inl h4
        · obtain ⟨es, cl, h7, _⟩ := h4.out
          exact .inr ⟨gb, e, h4.mono fun o ho => by rw [Vx.upd_ne _ _ h6, Vx.upd_ne _ _ h6]; exact g2.le _ _ ho, grow_off h7 h5, h6⟩
theorem know_nil (H : PHeap) (oa : Option Addr) (n c : Nat) : Triple Try.prog 8 #[.pointer none, .slice oa n c] H fun v H' => v = .bool false ∧ H' = H := by
  refine know.vc none oa n c H _ ((some_nil H _).mono ?_)
  rintro _ _ ⟨rfl, rfl⟩
  exact ⟨_, rfl, fun _ => ⟨rfl, rfl⟩, fun e => by simp at e⟩
theorem forget_ok {F H : PHeap} {k : Nat} {gm : Option Nat} {kn : Bool} {who : List Int} {got : List (Int × BS)} (h : GaS F H k gm kn who got) :
    Triple Try.prog 10 #[.pointer (at0 k)] H fun v H' => v = .tuple #[] ∧ Keep k gm none F F H H' ∧ GaS F H' k none false [] [] := by
  obtain ⟨oa, n, c, h1, h2⟩ := h.row
  refine forget.vc (at0 k) H _ ⟨fun _ => ⟨neP k, _, h1.writes [.bool false, .slice none 0 0, .map none] rfl, rfl, ?_, ?_⟩, fun e => by simp [at0] at e⟩
  · refine ⟨Sub.refl _, fun _ _ h => .inl h, fun q o hq hqk _ => by rw [Vx.upd_ne _ _ hqk]; exact hq, fun q hq => ?_, fun _ e => by cases e⟩
    by_cases e : q = k
    · subst e; rw [upd_eq] at hq; cases hq
    · rwa [Vx.upd_ne _ _ e] at hq
  · exact ⟨Bx.sub_of h.sub h.off, h.off, ⟨none, 0, 0, Bx.new _ k _ _, RdL.nil _ _ _, by omega⟩, .inl ⟨rfl, rfl⟩, by simp⟩
theorem forget_nil (H : PHeap) : Triple Try.prog 10 #[.pointer none] H fun v H' => v = .tuple #[] ∧ H' = H :=
  forget.vc none H _ ⟨fun e => by simp at e, fun _ => ⟨rfl, rfl⟩⟩

/-! ### Take -/
theorem take_tail {F H : PHeap} {k gb : Nat} {kn : Bool} {who x : List Int} {got : List (Int × BS)} {from_ : Int} {oa : Option Addr} {n c : Nat} (h : GaS F H k (some gb) kn who got) (hx : RdL H bE 1 oa n x) (hn : n ≤ 300) (hno : mlook got from_ = none) :
    Triple Try.prog 19 #[.slice oa n c] H fun v H1 => ∃ a q d, v = .slice a q d ∧ Sub H H1 ∧ EvU Try.prog (Instr.mapUpdate 25 (.map (some gb)) (.int .i64 from_) (.slice a q d)) H1 fun H2 =>
      ∃ F' s, s.l = x ∧ Keep k (some gb) (some gb) F F' H H2 ∧ GaS F' H2 k (some gb) kn who (got ++ [(from_, s)]) := by
  refine (cloneB_ok hx (by omega)).mono ?_
  rintro _ H1 ⟨a, d, rfl, g1, g2, g3⟩
  obtain ⟨o0, hk⟩ := h.some_k
  obtain ⟨pa, m, dd, h1, h2, h3⟩ := h.row
  rcases h.map with ⟨e, _⟩ | ⟨gb', e, h4, h5, h6⟩
  · cases e
  cases e
  obtain ⟨es, cl, h7, _⟩ := h4.out
  refine ⟨a, n, d, rfl, g2, map_put (vE := sV) (v := ⟨a, n, d, x⟩) mapT (h4.mono fun o ho => g2.le _ _ ho) fun o hmp => ?_⟩
  rw [mlay_none hno] at hmp
  refine ⟨grow F H H1, ⟨a, n, d, x⟩, rfl, ?_, ?_⟩
  · refine ⟨grow_le h.sub, fun q o hq => grow_new hq, fun q o hq _ hqb => ?_, fun q hq => ?_, fun _ e => .inl e⟩
    · rw [Vx.upd_ne _ _ (fun e => hqb (by rw [e]))]; exact g2.le _ _ hq
    · by_cases e : q = gb
      · subst e; rw [upd_eq] at hq; cases hq
      · rw [Vx.upd_ne _ _ e] at hq
        cases hh : H q with
        | none => rfl
        | some o => rw [g2.le _ _ hh] at hq; cases hq
  · refine ⟨Bx.sub_of (grow_sub h.sub g2) (grow_off h7 h5), grow_off hk h.off, ⟨pa, m, dd, (h1.sub g2).upd_ne _ (fun e => h6 e.symm), h2.mono (grow_le h.sub), h3⟩, .inr ⟨gb, rfl, hmp, grow_off h7 h5, h6⟩, fun y hy => ?_⟩
    rcases List.mem_append.1 hy with hy | hy
    · exact (h.ok y hy).mono (grow_le h.sub)
    · simp at hy
      subst hy
      exact ⟨(grow_own g1 g3).rd (E := bE) (sz := 1) (by omega) bLen, g1.le, hn⟩
theorem take_ok {F H : PHeap} {k : Nat} {gm : Option Nat} {kn : Bool} {who x : List Int} {got : List (Int × BS)} {from_ : Int} {oa : Option Addr} {n c : Nat} (h : GaS F H k gm kn who got) (hx : RdL H bE 1 oa n x) (hn : n ≤ 300) (hak : n = 0 ∨ ∀ a, oa = some a → a.block ≠ k) :
    Triple Try.prog 6 #[.pointer (at0 k), .int .i64 from_, .slice oa n c] H fun v H' => v = .bool (mlook got from_).isNone ∧
      ∃ F' gm' got', Keep k gm gm' F F' H H' ∧ GaS F' H' k gm' kn who got' ∧ (if (mlook got from_).isSome then got' = got else ∃ s, s.l = x ∧ got' = got ++ [(from_, s)]) := by
  obtain ⟨pa, m, dd, h1, h2, h3⟩ := h.row
  refine take.vc (at0 k) from_ oa n c H _ ⟨fun e => by simp [at0] at e, fun _ => ⟨neP k, neP k, gm, h1.r2, look_ok h (Sub.refl _) ?_⟩⟩
  refine ⟨_, _, _, _, rfl, fun e => ?_, fun e => ⟨neP k, neP k, gm, h1.r2, fun e2 => ?_, fun e2 => ?_⟩⟩
  · obtain ⟨s, hs⟩ := Option.isSome_iff_exists.1 e
    exact ⟨by rw [hs]; rfl, F, gm, got, Keep.refl .., h, by rw [hs]; rfl⟩
  · have hno : mlook got from_ = none := by simpa using e
    have e2' : gm = none := by simpa using e2
    subst e2'
    rcases h.map with ⟨_, rfl⟩ | ⟨gb, e, _⟩
    · refine makeMap_mp fun b hb => ⟨some b, rfl, neP k, neP k, ?_⟩
      obtain ⟨o0, hk⟩ := h.some_k
      have hbk : b ≠ k := fun e => by rw [e, hk] at hb; cases hb
      have hsb := Sub.upd (.map #[] 0) hb
      have hb1 := h1.sub hsb
      have hfb : F b = none := by
        cases hh : F b with
        | none => rfl
        | some o => rw [h.sub.le _ _ hh] at hb; cases hb
      have hS : GaS F ((H.upd b (.map #[] 0)).upd k (.cells [.bool kn, .slice pa m dd, .map (some b)].toArray 27 (0, 0))) k (some b) kn who [] :=
        ⟨Bx.sub_of (Bx.sub_of h.sub hfb) h.off, h.off, ⟨pa, m, dd, Bx.new _ k _ _, h2, h3⟩, .inr ⟨b, rfl, (Mp.new H b _ _).mono fun o ho => by rw [Vx.upd_ne _ _ hbk]; exact ho, hfb, hbk⟩, by simp⟩
      have hK : Keep k none (some b) F F H ((H.upd b (.map #[] 0)).upd k (.cells [.bool kn, .slice pa m dd, .map (some b)].toArray 27 (0, 0))) := by
        refine ⟨Sub.refl _, fun _ _ h => .inl h, fun q o hq hqk _ => by rw [Vx.upd_ne _ _ hqk]; exact hsb.le _ _ hq, fun q hq => ?_, fun q e => by cases e; exact .inr hb⟩
        by_cases e : q = k
        · subst e; rw [upd_eq] at hq; cases hq
        · rw [Vx.upd_ne _ _ e] at hq
          cases hh : H q with
          | none => rfl
          | some o => rw [hsb.le _ _ hh] at hq; cases hq
      have hx2 : RdL ((H.upd b (.map #[] 0)).upd k (.cells [.bool kn, .slice pa m dd, .map (some b)].toArray 27 (0, 0))) bE 1 oa n x := by
        have h8 : Vx.Frame (at0 k) (H.upd b (.map #[] 0)) ((H.upd b (.map #[] 0)).upd k (.cells [.bool kn, .slice pa m dd, .map (some b)].toArray 27 (0, 0))) := fun q o hq hne => by
          rw [Vx.upd_ne _ _ (hne _ rfl)]; exact hq
        rcases hak with hn0 | hak
        · subst hn0
          have hx0 : x = [] := List.eq_nil_of_length_eq_zero hx.len
          subst hx0
          exact ⟨rfl, fun _ => rfl, fun i x h => by simp at h⟩
        refine (hx.mono hsb).frame h8 fun a a' ha ha' e => ?_
        cases ha'
        exact hak a ha e
      have hw := hb1.w2 (.map (some b))
      generalize ((H.upd b (.map #[] 0)).upd k (.cells [.bool kn, .slice pa m dd, .map (some b)].toArray 27 (0, 0))) = H2 at *
      obtain ⟨pa', m', dd', j1, j2, j3⟩ := hS.row
      refine ⟨H2, hw, H2, Sub.refl _, neP k, neP k, some b, j1.r2, (take_tail hS hx2 hn hno).mono ?_⟩
      rintro _ H3 ⟨a, q, d, rfl, g1, g2⟩
      refine ⟨a, q, d, rfl, g1, evU_mono g2 ?_⟩
      rintro H4 ⟨F', s, e1, e2, e3⟩
      exact ⟨rfl, F', some b, _, hK.trans e2, e3, s, e1, rfl⟩
    · cases e
  · have hno : mlook got from_ = none := by simpa using e
    rcases h.map with ⟨rfl, _⟩ | ⟨gb, rfl, _⟩
    · simp at e2
    · refine ⟨H, Sub.refl _, neP k, neP k, some gb, h1.r2, (take_tail h hx hn hno).mono ?_⟩
      rintro _ H3 ⟨a, q, d, rfl, g1, g2⟩
      refine ⟨a, q, d, rfl, g1, evU_mono g2 ?_⟩
      rintro H4 ⟨F', s, e1, e2, e3⟩
      rw [hno]
      exact ⟨rfl, F', some gb, _, e2, e3, s, e1, rfl⟩
end Go.Gat
