/- The contracts of the index's methods: Put, Drop, Find, All, Names, Copy. -/
import Derived.Test.YtcdgeeakfoofpaaIdxB
namespace Go.Idx
open Go.Vx Go.Vc Go.Proofs

/-- The entry at a key, or the zero one. -/
def wasV (M : List En) : Value := .agg (eE (M.headD z0)).toArray
theorem Ix.write {F H H' : PHeap} {k : Nat} {l l' : List En} (h : Ix F H k l) (hs : Sorted l') {oa : Option Addr} {n c : Nat} (hb : Bx H' k 52 [.slice oa n c]) (how : OwnE H' oa n c l') (hne : ∀ a, oa = some a → a.block ≠ k) (ho : Off F oa) (hF : Sub F H') : Ix F H' k l' :=
  ⟨hF, h.off, hs, oa, n, c, hb, how, hne, ho⟩
theorem put_ok {F H : PHeap} {k : Nat} {l A M B : List En} {e : En} (hx : Ix F H k l) (hl : l.length ≤ 999) (c : Cut l (key e) A M B) :
    Triple Try.prog 9 #[.pointer (at0 k), .agg (eE e).toArray] H fun v H' => v = .tuple #[wasV M, .bool (!M.isEmpty)] ∧ Ix F H' k (A ++ e :: B) := by
  obtain ⟨s, r, a, m⟩ := e
  have hne : Ob (at0 k ≠ none) := ⟨by simp [at0]⟩
  refine putI.vc (at0 k) s r a m H _ ((place_ok hx (by omega) c).mono ?_)
  rintro _ H1 ⟨rfl, hs1, hx1⟩
  have hlen := c.len
  refine ⟨_, _, rfl, fun h => by simp [at0] at h, fun _ => ⟨fun his => ?_, fun his => ?_⟩⟩
  · have hM : M ≠ [] := by intro e; rw [e] at his; simp at his
    obtain ⟨mm, rfl, hmk, hmA⟩ := c.mid_at hM
    obtain ⟨oa, n, cc, h1, h2, h3, h4⟩ := hx1.row
    have hrd := h2.rd (E := eE) (sz := 4) (by omega) eLen
    have hn := h2.len
    have hAn : A.length < n := by simp at hlen; omega
    obtain ⟨H2, hw, g2, hf⟩ := Owns.set eLen h2 (by omega) (i := (A.length : Int)) (by omega) (by omega) ((s, r, a, m) : En)
    rw [Int.toNat_natCast, c.set hM] at g2
    refine ⟨hne, hne, oa, n, cc, h1.reads, hrd.ob (by omega) (by omega), mm.1, mm.2.1, mm.2.2.1, mm.2.2.2, hrd.at (by omega) (by simpa using hmA), H1, Sub.refl _, hne, hne, oa, n, cc, h1.reads, hrd.ob (by omega) (by omega), H2, hw, rfl, ?_⟩
    exact hx1.write (hx.srt.put c) (h1.frame hf fun a ha => (h3 a ha).symm) g2 h3 h4 (hf.sub hx1.sub h4)
  · have hM : M = [] := by
      refine Classical.byContradiction fun hM => ?_
      have : M.isEmpty = false := by simpa using hM
      rw [this] at his; simp at his
    subst hM
    obtain ⟨oa, n, cc, h1, h2, h3, h4⟩ := hx1.row
    have hn := h2.len
    refine ⟨H1, Sub.refl _, hne, hne, oa, n, cc, h1.reads, fun kb hkb => ?_⟩
    have hsk := Sub.upd (.cells #[.string s, .int .i64 r, .int .i64 a, .int .i64 m] 35) hkb
    refine ⟨hsk, ?_⟩
    have bkb : Bx (H1.upd kb (.cells #[.string s, .int .i64 r, .int .i64 a, .int .i64 m] 35)) kb 35 (eE ((s, r, a, m) : En)) := Bx.new _ kb _ (eE ((s, r, a, m) : En))
    have hx2 := hx1.mono hsk
    have hk2 : kb ≠ k := fun e => by unfold Bx at h1; rw [← e, hkb] at h1; cases h1
    have how2 : OwnE _ oa n cc l := h2.mono (H' := H1.upd kb (.cells #[.string s, .int .i64 r, .int .i64 a, .int .i64 m] 35)) fun a o _ ho => hsk.le _ _ ho
    have hbo : ∀ a, oa = some a → a.block ≠ kb := by
      intro a' ha e
      rcases h2.row with ⟨e1, _⟩ | ⟨g, cur, e1, hg, _⟩
      · rw [e1] at ha; cases ha
      · rw [e1] at ha; cases ha
        simp only at e
        rw [e, hkb] at hg; cases hg
    refine (insert_ok how2 bkb hbo (i := A.length) (by simp at hlen; omega) (by omega)).mono ?_
    rintro _ H2 ⟨b, kk, rfl, g2, hf2, hfr⟩
    have hb2 : Bx H2 k 52 [.slice oa n cc] := (h1.sub hsk).frame hf2 fun a ha => (h3 a ha).symm
    have hbk : ∀ a, b = some a → a.block ≠ k := by
      intro a ha e
      rcases hfr a ha with ⟨a', ha', e'⟩ | hno
      · exact h3 a' ha' (e'.trans e)
      · have := h1.sub hsk
        unfold Bx at this
        rw [e, this] at hno; cases hno
    refine ⟨b, n + 1, kk, rfl, hne, hne, _, by rw [fld0]; exact hb2.writes [.slice b (n + 1) kk] rfl, rfl, ?_⟩
    have hF : Sub F (H2.upd k (.cells [Value.slice b (n + 1) kk].toArray 52 (0, 0))) := Bx.sub_of (hf2.sub hx2.sub h4) hx.off
    refine hx1.write (hx.srt.put c) (Bx.new _ k _ _) ?_ hbk (hfr.off hx2.sub h4) hF
    rw [c.take, c.drop, List.nil_append] at g2
    exact g2.mono fun a o ha ho => by rw [Vx.upd_ne _ _ (hbk a ha)]; exact ho
theorem drop_ok {F H : PHeap} {k : Nat} {l A M B : List En} {s : ByteArray} {r : Int} (hx : Ix F H k l) (hl : l.length ≤ 1000) (c : Cut l (s, r) A M B) :
    Triple Try.prog 11 #[.pointer (at0 k), .agg #[.string s, .int .i64 r]] H fun v H' => v = .tuple #[wasV M, .bool (!M.isEmpty)] ∧ Ix F H' k (A ++ B) := by
  have hne : Ob (at0 k ≠ none) := ⟨by simp [at0]⟩
  refine dropI.vc (at0 k) s r H _ ((place_ok hx (by omega) c).mono ?_)
  rintro _ H1 ⟨rfl, hs1, hx1⟩
  have hlen := c.len
  refine ⟨_, _, rfl, fun his => ?_, fun his => ?_⟩
  · have hM : M = [] := by simpa using his
    subst hM
    have e1 := c.eq
    rw [List.append_nil] at e1
    exact ⟨rfl, by rw [← e1]; exact hx1⟩
  · have hM : M ≠ [] := by intro e; rw [e] at his; simp at his
    have hd1 := c.drop1 hM
    obtain ⟨mm, rfl, hmk, hmA⟩ := c.mid_at hM
    obtain ⟨oa, n, cc, h1, h2, h3, h4⟩ := hx1.row
    have hrd := h2.rd (E := eE) (sz := 4) (by omega) eLen
    have hn := h2.len
    have hAn : A.length < n := by simp at hlen; omega
    have ew : IntKind.i64.wrap ((A.length : Int) + 1) = (A.length : Int) + 1 := wrap64 (by omega) (by omega)
    refine ⟨hne, hne, oa, n, cc, h1.reads, hrd.ob (by omega) (by omega), mm.1, mm.2.1, mm.2.2.1, mm.2.2.2, hrd.at (by omega) (by simpa using hmA), hne, hne, oa, n, cc, h1.reads, ?_⟩
    rw [ew]
    refine (delete_ok h2 hAn (by omega)).mono ?_
    rintro _ H2 ⟨rfl, g2, hf2⟩
    have hb2 : Bx H2 k 52 [.slice oa n cc] := h1.frame hf2 fun a ha => (h3 a ha).symm
    refine ⟨oa, n - 1, cc, rfl, hne, hne, _, by rw [fld0]; exact hb2.writes [.slice oa (n - 1) cc] rfl, rfl, ?_⟩
    have hF : Sub F (H2.upd k (.cells [Value.slice oa (n - 1) cc].toArray 52 (0, 0))) := Bx.sub_of (hf2.sub hx1.sub h4) hx.off
    refine hx1.write (hx.srt.cut c) (Bx.new _ k _ _) ?_ h3 h4 hF
    rw [c.take, hd1] at g2
    exact g2.mono fun a o ha ho => by rw [Vx.upd_ne _ _ (h3 a ha)]; exact ho
theorem find_ok {F H : PHeap} {k : Nat} {l A M B : List En} {s : ByteArray} {r : Int} (hx : Ix F H k l) (hl : l.length ≤ 1000) (c : Cut l (s, r) A M B) :
    Triple Try.prog 13 #[.pointer (at0 k), .agg #[.string s, .int .i64 r]] H fun v H' => v = .tuple #[wasV M, .bool (!M.isEmpty)] ∧ Ix F H' k l := by
  have hne : Ob (at0 k ≠ none) := ⟨by simp [at0]⟩
  refine findI.vc (at0 k) s r H _ ((place_ok hx (by omega) c).mono ?_)
  rintro _ H1 ⟨rfl, hs1, hx1⟩
  have hlen := c.len
  refine ⟨_, _, rfl, fun his => ?_, fun his => ?_⟩
  · have hM : M = [] := by simpa using his
    subst hM
    exact ⟨rfl, hx1⟩
  · have hM : M ≠ [] := by intro e; rw [e] at his; simp at his
    obtain ⟨mm, rfl, hmk, hmA⟩ := c.mid_at hM
    obtain ⟨oa, n, cc, h1, h2, h3, h4⟩ := hx1.row
    have hrd := h2.rd (E := eE) (sz := 4) (by omega) eLen
    have hn := h2.len
    have hAn : A.length < n := by simp at hlen; omega
    exact ⟨hne, hne, oa, n, cc, h1.reads, hrd.ob (by omega) (by omega), mm.1, mm.2.1, mm.2.2.1, mm.2.2.2, hrd.at (by omega) (by simpa using hmA), rfl, hx1⟩
/-- What 'All' tells is the caller's own. -/
theorem all_ok {F H : PHeap} {k : Nat} {l : List En} (hx : Ix F H k l) (hl : l.length ≤ 1000) :
    Triple Try.prog 15 #[.pointer (at0 k)] H fun v H' => ∃ b n c, v = .slice b n c ∧ OwnE H' b n c l ∧ Sub H H' ∧ Off H b := by
  have hne : Ob (at0 k ≠ none) := ⟨by simp [at0]⟩
  obtain ⟨oa, n, cc, h1, h2, h3, h4⟩ := hx.row
  have hn := h2.len
  refine allI.vc (at0 k) H _ ⟨fun h => by simp [at0] at h, fun _ => ⟨hne, hne, oa, n, cc, h1.reads, ?_⟩⟩
  refine (clone_ok (h2.rd (E := eE) (sz := 4) (by omega) eLen) (by omega)).mono ?_
  rintro _ H' ⟨b, c, rfl, g1, g2, g3⟩
  exact ⟨b, n, c, rfl, b, n, c, rfl, g1, g2, g3⟩
theorem all_nil (H : PHeap) : Triple Try.prog 15 #[.pointer none] H fun v H' => v = .slice none 0 0 ∧ H' = H :=
  allI.vc none H _ ⟨fun _ => ⟨rfl, rfl⟩, fun h => by simp at h⟩
theorem copy_ok {F H : PHeap} {k : Nat} {l : List En} (hx : Ix F H k l) (hl : l.length ≤ 1000) :
    Triple Try.prog 19 #[.pointer (at0 k)] H fun v H' => ∃ k', v = .pointer (at0 k') ∧ Sub H H' ∧ H k' = none ∧ ∃ b n c, Bx H' k' 52 [.slice b n c] ∧ OwnE H' b n c l ∧ Off H b ∧ ∀ a, b = some a → a.block ≠ k' := by
  have hne : Ob (at0 k ≠ none) := ⟨by simp [at0]⟩
  obtain ⟨oa, n, cc, h1, h2, h3, h4⟩ := hx.row
  have hn := h2.len
  refine copyI.vc (at0 k) H _ ⟨fun h => by simp [at0] at h, fun _ => ⟨hne, hne, oa, n, cc, h1.reads, ?_⟩⟩
  refine (clone_ok (h2.rd (E := eE) (sz := 4) (by omega) eLen) (by omega)).mono ?_
  rintro _ H' ⟨b, c, rfl, g1, g2, g3⟩
  refine ⟨b, n, c, rfl, fun k' hk' => ⟨k', rfl, g2.trans (Sub.upd _ hk'), ?_, b, n, c, Bx.new _ k' _ _, g1.mono fun a o _ ho => (Sub.upd _ hk').le _ _ ho, g3, ?_⟩⟩
  · cases h : H k' with
    | none => rfl
    | some o => rw [g2.le _ _ h] at hk'; cases hk'
  · intro a ha e
    rcases g1.row with ⟨e1, _⟩ | ⟨g, cur, e1, hg, _⟩
    · rw [e1] at ha; cases ha
    · rw [e1] at ha; cases ha
      simp only at e
      rw [e, hk'] at hg; cases hg
theorem copy_nil (H : PHeap) : Triple Try.prog 19 #[.pointer none] H fun v H' => v = .pointer none ∧ H' = H :=
  copyI.vc none H _ ⟨fun _ => ⟨rfl, rfl⟩, fun h => by simp at h⟩

end Go.Idx
