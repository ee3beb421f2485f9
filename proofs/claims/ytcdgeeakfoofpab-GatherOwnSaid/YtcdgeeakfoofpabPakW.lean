/- The contracts of the writer of numbers and texts. -/
import Derived.Test.YtcdgeeakfoofpabVxX
import Derived.Test.YtcdgeeakfoofpabVcPakW
namespace Go.Pak
open Go.Vx Go.Vc Go.Proofs

theorem tB : ElemT Try.prog 32 5 1 1 := .of (by kernel_rfl)
theorem wrapS {i : Int} (h0 : 0 ≤ i) (h1 : i ≤ 1000000) : IntKind.i64.wrap (i + 1) = i + 1 := wrap64 (by omega) (by omega)
theorem neP (k : Nat) : Ob (at0 k ≠ none) := ⟨by simp [at0]⟩
theorem fld0 (k : Nat) : fldA (at0 k) 0 = at0 k := rfl
/-- A number's byte at a place. -/
def byteOf (w : Nat) (n : Int) (i : Nat) : Int := (n / 2 ^ (8 * (w - 1 - i))) % 256
/-- A number's bytes. -/
def numB (w : Nat) (n : Int) : List Int := (List.range w).map (byteOf w n)
theorem numB_len (w : Nat) (n : Int) : (numB w n).length = w := by simp [numB]
theorem byteOf_range (w : Nat) (n : Int) (i : Nat) : 0 ≤ byteOf w n i ∧ byteOf w n i ≤ 255 := by unfold byteOf; omega
theorem numB_one {n : Int} (h0 : 0 ≤ n) (h1 : n ≤ 255) : numB 1 n = [n] := by
  have : byteOf 1 n 0 = n := by unfold byteOf; simp; omega
  simp [numB, this]
/-- The block k holds a writer of these bytes, apart from F. -/
structure WrS (F H : PHeap) (k : Nat) (l : List Int) : Prop where
  sub : Sub F H
  off : F k = none
  row : ∃ oa n c, Bx H k 55 [.slice oa n c] ∧ OwnL H 5 bE 1 oa n c l ∧ (∀ a, oa = some a → a.block ≠ k) ∧ Off F oa
theorem WrS.mono {F H H' : PHeap} {k : Nat} {l : List Int} (h : WrS F H k l) (hs : Sub H H') : WrS F H' k l := by
  obtain ⟨oa, n, c, h1, h2, h3, h4⟩ := h.row
  exact ⟨h.sub.trans hs, h.off, oa, n, c, h1.sub hs, Owns.mono h2 fun a o _ ho => hs.le _ _ ho, h3, h4⟩
theorem WrS.new (H : PHeap) {k : Nat} (hk : H k = none) : WrS H (H.upd k (.cells #[.slice none 0 0] 55)) k [] :=
  ⟨Sub.upd _ hk, hk, none, 0, 0, Bx.new H k _ _, Owns.nil _ _ 1, fun _ h => (by cases h), Off.none _⟩
/-- The writer's slice is another one now. -/
theorem WrS.turn {F H H1 : PHeap} {k : Nat} {l l' : List Int} {oa ob : Option Addr} {n c m d : Nat} (h : WrS F H k l) (h1 : Bx H k 55 [.slice oa n c]) (hs : Sub F H) (h3 : ∀ a, oa = some a → a.block ≠ k) (h4 : Off F oa)
    (g1 : OwnL H1 5 bE 1 ob m d l') (g2 : Vx.Frame oa H H1) (g3 : Fresh oa ob H) :
    ∃ H2, Writes H1 H2 (fldA (at0 k) 0) [.slice ob m d] ∧ WrS F H2 k l' := by
  have hb1 := h1.frame g2 fun a ha => (h3 a ha).symm
  have hbk : ∀ a, ob = some a → a.block ≠ k := by
    intro a ha e
    rcases g3 a ha with ⟨a', ha', e'⟩ | hno
    · exact h3 a' ha' (e'.trans e)
    · unfold Bx at h1
      rw [e, h1] at hno; cases hno
  refine ⟨_, by rw [fld0]; exact hb1.writes [.slice ob m d] rfl, Bx.sub_of (g2.sub hs h4) h.off, h.off, ob, m, d, Bx.new _ k _ _, ?_, hbk, g3.off hs h4⟩
  exact Owns.mono g1 fun a o ha ho => by rw [Vx.upd_ne _ _ (hbk a ha)]; exact ho
theorem raw_ok {F H : PHeap} {k : Nat} {l x : List Int} {oa : Option Addr} {n c : Nat} (h : WrS F H k l) (hx : RdL H bE 1 oa n x) (hn : l.length + n ≤ 1000000) :
    Triple Try.prog 32 #[.pointer (at0 k), .slice oa n c] H fun v H' => v = .tuple #[] ∧ WrS F H' k (l ++ x) := by
  obtain ⟨ob, m, d, h1, h2, h3, h4⟩ := h.row
  have hm : l.length = m := (h2.rd (E := bE) (sz := 1) (by omega) bLen).len
  refine wRaw.vc (at0 k) oa n c H _ ⟨neP k, neP k, ob, m, d, by rw [fld0]; exact h1.reads, ?_⟩
  refine append_rd tB (E := bE) bLen h2 hx bOne (by simp only [maxLen]; omega) (by omega) ?_
  intro b2 c2 H2 g1 g2 g3
  obtain ⟨H3, hw, hW⟩ := h.turn h1 h.sub h3 h4 g1 g2 g3
  exact ⟨b2, _, c2, rfl, neP k, neP k, H3, hw, rfl, hW⟩
theorem width_ok {H : PHeap} (w : Int) : Triple Try.prog 30 #[.int .i64 w] H fun v H' => v = .int .i64 (minI (maxI w 1) 4) ∧ H' = H := width.vc w H _ ⟨rfl, rfl⟩
theorem width_id {w : Nat} (h1 : 1 ≤ w) (h4 : w ≤ 4) : minI (maxI (w : Int) 1) 4 = w := by unfold minI maxI; split <;> split <;> omega
theorem num_ok {F H : PHeap} {k w : Nat} {l : List Int} {n : Int} (h : WrS F H k l) (h1 : 1 ≤ w) (h4 : w ≤ 4) (hl : l.length ≤ 900000) :
    Triple Try.prog 24 #[.pointer (at0 k), .int .i64 w, .int .i64 n] H fun v H' => v = .tuple #[] ∧ WrS F H' k (l ++ numB w (maxI n 0)) := by
  refine wNum.vc (at0 k) w n H _ ((width_ok _).mono ?_)
  rintro _ H ⟨rfl, rfl⟩
  rw [width_id h1 h4]
  refine ⟨_, rfl, fun t H' => match t with | [.int _ i] => 0 ≤ i ∧ i ≤ w ∧ WrS F H' k (l ++ (numB w (maxI n 0)).take i.toNat) | _ => False, fun t _ => match t with | [.int _ i] => (w - i).toNat | _ => 0, ⟨by omega, by omega, by simpa using h⟩, ?_⟩
  rintro i H1 ⟨i0, i1, hW⟩
  obtain ⟨i, rfl⟩ : ∃ j : Nat, i = j := ⟨i.toNat, by omega⟩
  rw [Int.toNat_natCast] at hW
  refine ⟨fun hi => ?_, fun hi => ?_⟩
  · have hi' : i < w := by simpa using hi
    obtain ⟨ob, m, d, g1, g2, g3, g4⟩ := hW.row
    have hm := (g2.rd (E := bE) (sz := 1) (by omega) bLen).len
    rw [List.length_append, List.length_take, numB_len] at hm
    have e1 : IntKind.i64.wrap ((w : Int) - 1) = ((w - 1 : Nat) : Int) := by rw [show (w : Int) - 1 = ((w - 1 : Nat) : Int) by omega]; exact wrap64 (by omega) (by omega)
    have e2 : IntKind.i64.wrap (((w - 1 : Nat) : Int) - (i : Int)) = ((w - 1 - i : Nat) : Int) := by rw [show ((w - 1 : Nat) : Int) - (i : Int) = ((w - 1 - i : Nat) : Int) by omega]; exact wrap64 (by omega) (by omega)
    have e3 : IntKind.i64.wrap (8 * ((w - 1 - i : Nat) : Int)) = ((8 * (w - 1 - i) : Nat) : Int) := by rw [show 8 * ((w - 1 - i : Nat) : Int) = ((8 * (w - 1 - i) : Nat) : Int) by omega]; exact wrap64 (by omega) (by omega)
    rw [e1, e2, e3]
    have e4 : IntKind.u8.wrap (shrI IntKind.i64 (maxI n 0) ((8 * (w - 1 - i) : Nat) : Int)) = byteOf w (maxI n 0) i := by
      unfold shrI byteOf
      rw [Int.toNat_natCast, Nat.min_eq_left (by simp [IntKind.bits]; omega), Int.fdiv_eq_ediv_of_nonneg _ (Int.pow_nonneg (by omega))]
      simp [IntKind.wrap, IntKind.bits, IntKind.signed]
    rw [e4]
    refine ⟨H1, Sub.refl _, neP k, neP k, ob, m, d, by rw [fld0]; exact g1.reads, ⟨by omega⟩, fun k3 hk3 => ⟨Sub.upd _ hk3, ?_⟩⟩
    refine append_one tB hk3 (E := bE) (x := byteOf w (maxI n 0) i) bLen g2 rfl (bOne _) (by simp only [maxLen]; omega) (by omega) ?_
    intro b2 c2 H2 j1 j2 j3 _
    obtain ⟨H3, hw, hW3⟩ := hW.turn g1 hW.sub g3 g4 j1 j2 j3
    rw [wrapS (by omega) (by omega)]
    refine ⟨b2, m + 1, c2, rfl, neP k, neP k, H3, hw, ⟨by omega, by omega, ?_⟩, ⟨by simp only; omega⟩⟩
    have hg : (numB w (maxI n 0))[i]? = some (byteOf w (maxI n 0) i) := by simp [numB, hi']
    rw [show ((i : Int) + 1).toNat = i + 1 by omega, List.take_add_one, hg]
    rw [List.append_assoc] at hW3
    exact hW3
  · have hi' : ¬ i < w := by simpa using hi
    rw [List.take_of_length_le (by rw [numB_len]; omega)] at hW
    exact ⟨rfl, hW⟩
theorem bytes_ok {F H : PHeap} {k : Nat} {l : List Int} (h : WrS F H k l) (hl : l.length ≤ 1000000) :
    Triple Try.prog 27 #[.pointer (at0 k)] H fun v H' => ∃ b n c, v = .slice b n c ∧ OwnL H' 5 bE 1 b n c l ∧ Sub H H' ∧ Off H b := by
  obtain ⟨ob, m, d, h1, h2, h3, h4⟩ := h.row
  have hrd := h2.rd (E := bE) (sz := 1) (by omega) bLen
  have hm := hrd.len
  refine wBytes.vc (at0 k) H _ fun k2 hk2 => ⟨neP k, neP k, ob, m, d, by rw [fld0]; exact (h1.upd _ hk2).reads, ?_⟩
  have hs := Sub.upd (.cells #[] 5 (0, 0)) hk2
  refine append_rd tB (E := bE) (l := []) bLen (Owns.empty H k2 _ 1) (hrd.mono hs) bOne (by simp only [maxLen]; omega) (by omega) ?_
  intro b2 c2 H2 g1 g2 g3
  rw [List.nil_append] at g1
  rw [Nat.zero_add] at g1 ⊢
  exact ⟨b2, m, c2, rfl, b2, m, c2, rfl, g1, g2.sub hs (off_at0 hk2), g3.off hs (off_at0 hk2)⟩
end Go.Pak
