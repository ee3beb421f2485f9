/- The contracts of the index's methods. -/
import Derived.Test.YtcdgeeakfoofpaaIdxA
namespace Go.Idx
open Go.Vx Go.Vc Go.Proofs

/-- The block k holds an index of these entries, apart from F. -/
structure Ix (F H : PHeap) (k : Nat) (l : List En) : Prop where
  sub : Sub F H
  off : F k = none
  srt : Sorted l
  row : ∃ oa n c, Bx H k 52 [.slice oa n c] ∧ OwnE H oa n c l ∧ (∀ a, oa = some a → a.block ≠ k) ∧ Off F oa
theorem Ix.mono {F H H' : PHeap} {k : Nat} {l : List En} (h : Ix F H k l) (hs : Sub H H') : Ix F H' k l := by
  obtain ⟨oa, n, c, h1, h2, h3, h4⟩ := h.row
  exact ⟨h.sub.trans hs, h.off, h.srt, oa, n, c, h1.sub hs, h2.mono fun a o _ ho => hs.le _ _ ho, h3, h4⟩
theorem OwnE.len {H : PHeap} {oa : Option Addr} {n c : Nat} {l : List En} (h : OwnE H oa n c l) : l.length = n := (h.rd (E := eE) (sz := 4) (by omega) eLen).len
/-- What is new, and what was apart, is apart. -/
theorem Ix.grow {F H H' : PHeap} {k : Nat} {l : List En} (h : Ix F H k l) (hs : Sub H H') : ∃ F', Ix F' H' k l ∧ Sub F F' ∧ ∀ b o, H b = none → H' b = some o → F' b = some o := by
  obtain ⟨oa, n, c, h1, h2, h3, h4⟩ := h.row
  refine ⟨fun b => if H b = none then H' b else F b, ⟨⟨fun b o hb => ?_⟩, ?_, h.srt, oa, n, c, h1.sub hs, h2.mono fun a o _ ho => hs.le _ _ ho, h3, fun a ha => ?_⟩, ⟨fun b o hb => ?_⟩, fun b o hb ho => ?_⟩
  · split at hb
    · exact hb
    · exact hs.le _ _ (h.sub.le _ _ hb)
  · show (if H k = none then H' k else F k) = none
    have : H k ≠ none := fun e => by unfold Bx at h1; rw [e] at h1; cases h1
    rw [if_neg this]; exact h.off
  · show (if H a.block = none then H' a.block else F a.block) = none
    rcases h2.row with ⟨e, _⟩ | ⟨g, cur, e, hg, _⟩
    · rw [e] at ha; cases ha
    · rw [e] at ha; cases ha
      rw [if_neg (fun e1 => by rw [hg] at e1; cases e1)]
      exact h4 _ e
  · show (if H b = none then H' b else F b) = some o
    rw [if_neg (fun e => by rw [h.sub.le _ _ hb] at e; cases e)]; exact hb
  · show (if H b = none then H' b else F b) = some o
    rw [if_pos hb]; exact ho
/-- What the call made is apart. -/
theorem RdL.apart {α : Type} {H H' F' : PHeap} {E : α → List Value} {sz : Nat} {e : TypeId} {oa : Option Addr} {n c : Nat} {l : List α} (hsz : 0 < sz) (hE : ∀ x, (E x).length = sz) (h : OwnL H' e E sz oa n c l) (ho : Off H oa) (hF : ∀ b o, H b = none → H' b = some o → F' b = some o) : RdL F' E sz oa n l :=
  (Owns.mono h fun a o ha hb => hF _ _ (ho a ha) hb).rd hsz hE
theorem fld0 (k : Nat) : fldA (at0 k) 0 = at0 k := rfl

theorem place_ok {F H : PHeap} {k : Nat} {l A M B : List En} {s : ByteArray} {r : Int} (hx : Ix F H k l) (hl : l.length ≤ 1000) (c : Cut l (s, r) A M B) :
    Triple Try.prog 20 #[.pointer (at0 k), .agg #[.string s, .int .i64 r]] H fun v H' => v = .tuple #[.int .i64 A.length, .bool (!M.isEmpty)] ∧ Sub H H' ∧ Ix F H' k l := by
  refine placeI.vc (at0 k) s r H _ fun k4 h4 k5 h5 => ?_
  have hs2 := (Sub.upd (.cells #[.pointer (at0 k)] 24) h4).trans (Sub.upd (.cells #[.string s, .int .i64 r] 33) h5)
  have b4 : Bx ((H.upd k4 (.cells #[.pointer (at0 k)] 24)).upd k5 (.cells #[.string s, .int .i64 r] 33)) k4 24 [.pointer (at0 k)] := (Bx.new H k4 _ [.pointer (at0 k)]).upd _ h5
  have b5 : Bx ((H.upd k4 (.cells #[.pointer (at0 k)] 24)).upd k5 (.cells #[.string s, .int .i64 r] 33)) k5 33 [.string s, .int .i64 r] := Bx.new _ k5 _ [.string s, .int .i64 r]
  generalize (H.upd k4 (.cells #[.pointer (at0 k)] 24)).upd k5 (.cells #[.string s, .int .i64 r] 33) = H2 at *
  have hx2 := hx.mono hs2
  obtain ⟨oa, n, cc, h1, h2, h3, h5'⟩ := hx2.row
  have hrd := h2.rd (E := eE) (sz := 4) (by omega) eLen
  have hn := h2.len
  have hlen := c.len
  have hne : Ob (at0 k ≠ none) := ⟨by simp [at0]⟩
  have hA : A.length ≤ n := by omega
  refine ⟨at0 k, b4.reads, fun h => by simp [at0] at h, fun _ => ⟨at0 k, b4.reads, hne, hne, oa, n, cc, h1.reads, ?_⟩⟩
  refine (search_ok (H := H2) (n := n) (r := A.length) (by omega) hA fun i hi Q hQ => ?_).mono ?_
  · refine CallY.fn (by kernel_rfl) ?_
    obtain ⟨x, hx', hxr⟩ := hrd.ex (i := (i : Int)) (by omega) (by omega)
    refine placeI1.vc i (at0 k4) (at0 k5) H2 Q ⟨H2, Sub.refl _, at0 k, b4.reads, hne, hne, oa, n, cc, h1.reads, hrd.ob (by omega) (by omega), ⟨hrd.elem_ne (by omega) (by omega)⟩, x.1, x.2.1, hxr.fld 0 ?_, s, r, b5.reads, (less_ok _ _ _ _).use ⟨_, rfl, ?_⟩⟩
    · intro j v hv
      match j, hv with
      | 0, hv => simpa [eE, pairE, strE, intE] using hv
      | 1, hv => simpa [eE, pairE, strE, intE] using hv
      | j + 2, hv => simp at hv
    · have := c.lt_at (i := i) (x := x) (by simpa using hx')
      have e1 : (!kLt (x.1, x.2.1) (s, r)) = decide (A.length ≤ i) := by
        rw [this]
        by_cases h : i < A.length
        · have : ¬ A.length ≤ i := by omega
          simp [h, this]
        · have : A.length ≤ i := by omega
          simp [h, this]
      rw [e1]; exact hQ
  · rintro _ H2 ⟨rfl, rfl⟩
    refine ⟨_, rfl, H2, Sub.refl _, at0 k, b4.reads, hne, hne, oa, n, cc, h1.reads, fun h => ?_, fun h => ?_⟩
    · have h' : A.length < n := by
        have := of_decide_eq_true h
        omega
      obtain ⟨x, hx', hxr⟩ := hrd.ex (i := (A.length : Int)) (by omega) (by omega)
      refine ⟨at0 k, b4.reads, hne, hne, oa, n, cc, h1.reads, hrd.ob (by omega) (by omega), ⟨hrd.elem_ne (by omega) (by omega)⟩, x.1, x.2.1, hxr.fld 0 ?_, s, r, b5.reads, ?_, hs2, hx2⟩
      · intro j v hv
        match j, hv with
        | 0, hv => simpa [eE, pairE, strE, intE] using hv
        | 1, hv => simpa [eE, pairE, strE, intE] using hv
        | j + 2, hv => simp at hv
      · have e1 : (eqS x.1 s && x.2.1 == r) = !M.isEmpty := by
          have h1 := c.key_at (i := A.length) (x := x) (by simpa using hx')
          cases hb : (eqS x.1 s && x.2.1 == r) with
          | true =>
            have := h1.1 (key_eq (a := (x.1, x.2.1)) (b := (s, r)) |>.1 hb)
            simp [this.2]
          | false =>
            have : M = [] := by
              refine Classical.byContradiction fun hM => ?_
              have := key_eq (a := (x.1, x.2.1)) (b := (s, r)) |>.2 (h1.2 ⟨rfl, hM⟩)
              simp only at this
              rw [this] at hb; cases hb
            simp [this]
        rw [e1]
    · have h' : n ≤ A.length := by
        have : ¬ ((A.length : Int) < n) := by simpa using h
        omega
      have hM : M = [] := List.eq_nil_of_length_eq_zero (by omega)
      exact ⟨by rw [hM]; rfl, hs2, hx2⟩
/-- A nil index's place. -/
theorem place_nil {H : PHeap} (s : ByteArray) (r : Int) :
    Triple Try.prog 20 #[.pointer none, .agg #[.string s, .int .i64 r]] H fun v H' => v = .tuple #[.int .i64 0, .bool false] ∧ Sub H H' := by
  refine placeI.vc none s r H _ fun k4 h4 k5 h5 => ?_
  have hs2 := (Sub.upd (.cells #[.pointer none] 24) h4).trans (Sub.upd (.cells #[.string s, .int .i64 r] 33) h5)
  have b4 : Bx ((H.upd k4 (.cells #[.pointer none] 24)).upd k5 (.cells #[.string s, .int .i64 r] 33)) k4 24 [.pointer none] := (Bx.new H k4 _ [.pointer none]).upd _ h5
  exact ⟨none, b4.reads, fun _ => ⟨rfl, hs2⟩, fun h => by simp at h⟩
end Go.Idx
