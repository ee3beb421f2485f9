/- Gathering: copies, bytes of numbers and texts, lists that are the same. -/
import Derived.Test.YtcdgeeakfoofpabPakW
import Derived.Test.YtcdgeeakfoofpabVcGat
import Derived.Test.YtcdgeeakfoofpabVcGatR
namespace Go.Gat
open Go.Vx Go.Vc Go.Proofs Go.Pak

abbrev iE : Int → List Value := intE .i64
abbrev BS := Sl Int
abbrev sE : BS → List Value := Sl.E
theorem iLen (n : Int) : (iE n).length = 1 := rfl
theorem iOne (n : Int) : ∀ u ∈ iE n, u.oneCell' = true := fun u hu => by simp [intE] at hu; subst hu; rfl
theorem sLen (s : BS) : (sE s).length = 1 := rfl
theorem sOne (s : BS) : ∀ u ∈ sE s, u.oneCell' = true := fun u hu => by simp [Sl.E] at hu; subst hu; rfl
theorem tI : ElemT Try.prog 24 3 1 8 := .of (by kernel_rfl)
theorem tS : ElemT Try.prog 29 32 1 24 := .of (by kernel_rfl)

/-! ### Copies -/
theorem cloneB_ok {H : PHeap} {oa : Option Addr} {n c : Nat} {l : List Int} (hl : RdL H bE 1 oa n l) (hn : n ≤ 1000) :
    Triple Try.prog 19 #[.slice oa n c] H fun v H' => ∃ b k, v = .slice b n k ∧ OwnL H' 5 bE 1 b n k l ∧ Sub H H' ∧ Off H b := by
  refine cloneB.vc oa n c H _ ⟨fun h => ?_, fun h k4 hk4 => ?_⟩
  · have ho : oa = none := by simpa using h
    have hn0 := hl.pos ho
    have hl0 : l = [] := List.eq_nil_of_length_eq_zero (by rw [hl.len, hn0])
    subst hl0 hn0
    exact ⟨none, 0, rfl, Owns.nil _ _ 1, Sub.refl H, Off.none _⟩
  · have hsk := Sub.upd (.cells #[] 5 (0, 0)) hk4
    refine append_rd tB (E := bE) (l := []) bLen (Owns.empty H k4 _ 1) (hl.mono hsk) bOne (by simp [maxLen]; omega) (by omega) ?_
    intro b k H2 how hf hfr
    rw [List.nil_append] at how
    rw [Nat.zero_add] at how ⊢
    exact ⟨b, n, k, rfl, b, k, rfl, how, hf.sub hsk (off_at0 hk4), hfr.off hsk (off_at0 hk4)⟩
theorem cloneI_ok {H : PHeap} {oa : Option Addr} {n c : Nat} {l : List Int} (hl : RdL H iE 1 oa n l) (hn : n ≤ 1000) :
    Triple Try.prog 23 #[.slice oa n c] H fun v H' => ∃ b k, v = .slice b n k ∧ OwnL H' 3 iE 1 b n k l ∧ Sub H H' ∧ Off H b := by
  refine cloneI.vc oa n c H _ ⟨fun h => ?_, fun h k4 hk4 => ?_⟩
  · have ho : oa = none := by simpa using h
    have hn0 := hl.pos ho
    have hl0 : l = [] := List.eq_nil_of_length_eq_zero (by rw [hl.len, hn0])
    subst hl0 hn0
    exact ⟨none, 0, rfl, Owns.nil _ _ 1, Sub.refl H, Off.none _⟩
  · have hsk := Sub.upd (.cells #[] 3 (0, 0)) hk4
    refine append_rd tI (E := iE) (l := []) iLen (Owns.empty H k4 _ 1) (hl.mono hsk) iOne (by simp [maxLen]; omega) (by omega) ?_
    intro b k H2 how hf hfr
    rw [List.nil_append] at how
    rw [Nat.zero_add] at how ⊢
    exact ⟨b, n, k, rfl, b, k, rfl, how, hf.sub hsk (off_at0 hk4), hfr.off hsk (off_at0 hk4)⟩

/-! ### Lists that are the same -/
theorem sameInts_ok {H : PHeap} {oa ob : Option Addr} {n c c2 : Nat} {l : List Int} (h1 : RdL H iE 1 oa n l) (h2 : RdL H iE 1 ob n l) (hn : n ≤ 1000) :
    Triple Try.prog 14 #[.slice oa n c, .slice ob n c2] H fun v H' => v = .bool true ∧ H' = H := by
  refine sameInts.vc oa n c ob n c2 H _ ⟨fun h => by simp at h, fun _ => ⟨fun l H' => match l with | [.int _ i] => 0 ≤ i ∧ i ≤ n ∧ H' = H | _ => False, fun l _ => match l with | [.int _ i] => (n - i).toNat | _ => 0, ⟨by omega, by omega, rfl⟩, ?_⟩⟩
  rintro i H1 ⟨i0, i1, rfl⟩
  refine ⟨fun hi => ?_, fun _ => ⟨rfl, rfl⟩⟩
  have hi' : i < n := by simpa using hi
  obtain ⟨x, hx, hxr⟩ := h1.ex i0 hi'
  refine ⟨_, Sub.refl _, h1.ob i0 hi', x, hxr, h2.ob i0 hi', x, h2.at i0 hx, fun h => by simp at h, fun _ => ?_⟩
  rw [wrapS i0 (by omega)]
  exact ⟨⟨by omega, by omega, rfl⟩, ⟨by simp only; omega⟩⟩
theorem sameB_ok {H : PHeap} {oa ob : Option Addr} {n m c c2 : Nat} {l : List Int} (h1 : RdL H bE 1 oa n l) (h2 : RdL H bE 1 ob m l) (hn : n ≤ 100000) :
    Triple Try.prog 16 #[.slice oa n c, .slice ob m c2] H fun v H' => v = .bool true ∧ H' = H := by
  have e : m = n := by rw [← h1.len, ← h2.len]
  subst e
  refine sameB.vc oa m c ob m c2 H _ ⟨fun h => by simp at h, fun _ => ⟨fun l H' => match l with | [.int _ i] => 0 ≤ i ∧ i ≤ m ∧ H' = H | _ => False, fun l _ => match l with | [.int _ i] => (m - i).toNat | _ => 0, ⟨by omega, by omega, rfl⟩, ?_⟩⟩
  rintro i H1 ⟨i0, i1, rfl⟩
  refine ⟨fun hi => ?_, fun _ => ⟨rfl, rfl⟩⟩
  have hi' : i < m := by simpa using hi
  obtain ⟨x, hx, hxr⟩ := h1.ex i0 hi'
  refine ⟨_, Sub.refl _, h1.ob i0 hi', x, hxr, h2.ob i0 hi', x, h2.at i0 hx, fun h => by simp at h, fun _ => ?_⟩
  rw [wrapS i0 (by omega)]
  exact ⟨⟨by omega, by omega, rfl⟩, ⟨by simp only; omega⟩⟩
/-- What a text that is told by a slice says. -/
structure OkB (H : PHeap) (s : BS) : Prop where
  rd : RdL H bE 1 s.oa s.n s.l
  cap : s.n ≤ s.c
  small : s.n ≤ 300
theorem OkB.mono {H H' : PHeap} {s : BS} (h : OkB H s) (hs : Sub H H') : OkB H' s := ⟨h.rd.mono hs, h.cap, h.small⟩
theorem sameL_ok {H : PHeap} {oa ob : Option Addr} {n m c c2 : Nat} {L M : List BS} (h1 : RdL H sE 1 oa n L) (h2 : RdL H sE 1 ob m M) (hn : n ≤ 1000) (e : L.map (·.l) = M.map (·.l)) (o1 : ∀ s ∈ L, OkB H s) (o2 : ∀ s ∈ M, OkB H s) :
    Triple Try.prog 13 #[.slice oa n c, .slice ob m c2] H fun v H' => v = .bool true ∧ H' = H := by
  have el : m = n := by rw [← h1.len, ← h2.len]; simpa using (congrArg List.length e).symm
  subst el
  refine sameL.vc oa m c ob m c2 H _ ⟨fun h => by simp at h, fun _ => ⟨fun l H' => match l with | [.int _ i] => 0 ≤ i ∧ i ≤ m ∧ H' = H | _ => False, fun l _ => match l with | [.int _ i] => (m - i).toNat | _ => 0, ⟨by omega, by omega, rfl⟩, ?_⟩⟩
  rintro i H1 ⟨i0, i1, rfl⟩
  refine ⟨fun hi => ?_, fun _ => ⟨rfl, rfl⟩⟩
  have hi' : i < m := by simpa using hi
  obtain ⟨x, hx, hxr⟩ := h1.ex i0 hi'
  obtain ⟨y, hy, hyr⟩ := h2.ex i0 hi'
  have hxy : x.l = y.l := by
    have := congrArg (fun l : List (List Int) => l[i.toNat]?) e
    simpa [List.getElem?_map, hx, hy] using this
  have ox := o1 x (List.mem_of_getElem? hx)
  have oy := o2 y (List.mem_of_getElem? hy)
  have hs := ox.small
  refine ⟨_, Sub.refl _, h1.ob i0 hi', x.oa, x.n, x.c, hxr, h2.ob i0 hi', y.oa, y.n, y.c, hyr, (sameB_ok ox.rd (hxy ▸ oy.rd) (by omega)).mono ?_⟩
  rintro _ _ ⟨rfl, rfl⟩
  refine ⟨true, rfl, fun h => by simp at h, fun _ => ?_⟩
  rw [wrapS i0 (by omega)]
  exact ⟨⟨by omega, by omega, rfl⟩, ⟨by simp only; omega⟩⟩

/-! ### Bytes of numbers and texts -/
/-- A text's bytes. -/
def textB (l : List Int) : List Int := ((l.take 255).length : Int) :: l.take 255
theorem textB_len (l : List Int) : (textB l).length ≤ 256 := by simp [textB]; omega
theorem wText_ok {F H : PHeap} {k : Nat} {l x : List Int} {oa : Option Addr} {n c : Nat} (h : WrS F H k l) (hx : RdL H bE 1 oa n x) (hF : RdL F bE 1 oa n x) (hc : n ≤ c) (hl : l.length ≤ 800000) :
    Triple Try.prog 26 #[.pointer (at0 k), .slice oa n c] H fun v H' => v = .tuple #[] ∧ WrS F H' k (l ++ textB x) := by
  have hxl := hx.len
  have em : (minI (n : Int) 255).toNat - Int.toNat 0 = min n 255 := by unfold minI; split <;> omega
  have hm : (x.take 255).length = min n 255 := by rw [List.length_take]; omega
  have etk : x.take (min n 255) = x.take 255 := by
    by_cases hh : n ≤ 255
    · rw [Nat.min_eq_left hh, List.take_of_length_le (by omega), List.take_of_length_le (by omega)]
    · rw [Nat.min_eq_right (by omega)]
  refine wText.vc (at0 k) oa n c H _ ⟨⟨by omega, by unfold minI; split <;> omega, by unfold minI; split <;> omega⟩, ?_⟩
  rw [em, slA_zero]
  refine (num_ok (w := 1) h (by omega) (by omega) (by omega)).mono ?_
  rintro _ H1 ⟨rfl, h1⟩
  have e1 : numB 1 (maxI ((min n 255 : Nat) : Int) 0) = [((x.take 255).length : Int)] := by
    rw [hm]
    have : maxI ((min n 255 : Nat) : Int) 0 = ((min n 255 : Nat) : Int) := by unfold maxI; split <;> omega
    rw [this, numB_one (by omega) (by omega)]
  rw [e1] at h1
  have hx2 : RdL H1 bE 1 oa (min n 255) (x.take 255) := by
    have := (hF.mono h1.sub).take (i := min n 255) (by omega)
    rwa [etk] at this
  refine ⟨rfl, (raw_ok h1 hx2 (by rw [List.length_append, List.length_singleton]; omega)).mono ?_⟩
  rintro _ H2 ⟨rfl, h2⟩
  rw [List.append_assoc] at h2
  exact ⟨rfl, rfl, h2⟩
theorem nText_ok {H : PHeap} {oa : Option Addr} {n c : Nat} {x : List Int} (hx : RdL H bE 1 oa n x) (hc : n ≤ c) (hn : n ≤ 1000) :
    Triple Try.prog 29 #[.slice oa n c] H fun v H' => ∃ b m k, v = .slice b m k ∧ OwnL H' 5 bE 1 b m k (textB x) ∧ Sub H H' ∧ Off H b := by
  have hxl := hx.len
  have main : ∀ {q : Nat} {c' : Nat} (k4 : Nat) (hk4 : H k4 = none) (hq : RdL H bE 1 oa q (x.take 255)) (hq1 : q ≤ 255) (K : Value → PHeap → Prop) (hK : ∀ b m k H', OwnL H' 5 bE 1 b m k (textB x) → Sub H H' → Off H b → K (.slice b m k) H'),
      EvV Try.prog (Builtin.append_ #[32, 32] 32 #[.slice (at0 k4) 1 1, .slice oa q c']) (H.upd k4 (.cells #[.int .u8 (IntKind.u8.wrap (q : Int))] 5)) K := by
    intro q c' k4 hk4 hq hq1 K hK
    have hql := hq.len
    have ew : IntKind.u8.wrap (q : Int) = ((x.take 255).length : Int) := by
      rw [hql]
      simp [IntKind.wrap, IntKind.bits, IntKind.signed]
      omega
    rw [ew]
    have hsk := Sub.upd (.cells #[.int .u8 ((x.take 255).length : Int)] 5 (0, 0)) hk4
    have how : OwnL (H.upd k4 (.cells #[.int .u8 ((x.take 255).length : Int)] 5 (0, 0))) 5 bE 1 (at0 k4) 1 1 [((x.take 255).length : Int)] :=
      ⟨rfl, .inr ⟨k4, _, rfl, upd_eq .., Nat.le_refl _, by decide, rfl, rfl⟩⟩
    refine append_rd tB (E := bE) (l := [((x.take 255).length : Int)]) bLen how (hq.mono hsk) bOne (by simp [maxLen]; omega) (by omega) ?_
    intro b k H2 g1 g2 g3
    exact hK _ _ _ _ g1 (g2.sub hsk (off_at0 hk4)) (g3.off hsk (off_at0 hk4))
  refine nText.vc oa n c H _ ⟨fun h => ?_, fun h k4 hk4 => ?_⟩
  · have hn255 : n > 255 := by simp at h; omega
    refine ⟨⟨by omega, by omega, by omega⟩, fun k4 hk4 => ?_⟩
    rw [slA_zero]
    exact main k4 hk4 (hx.take (i := 255) (by omega)) (by omega) _ fun b m k H' g1 g2 g3 => ⟨b, m, k, rfl, b, m, k, rfl, g1, g2, g3⟩
  · have hn255 : n ≤ 255 := by simp at h; omega
    refine main k4 hk4 (by rw [List.take_of_length_le (by omega)]; exact hx) (by omega) _ fun b m k H' g1 g2 g3 => ⟨b, m, k, rfl, b, m, k, rfl, g1, g2, g3⟩
theorem nWidth_ok {H : PHeap} {w : Nat} (h1 : 1 ≤ w) (h4 : w ≤ 4) : Triple Try.prog 33 #[.int .i64 w] H fun v H' => v = .int .i64 w ∧ H' = H := by
  refine nWidth.vc w H _ ⟨fun h => ?_, fun _ => ⟨fun h => ?_, fun _ => ⟨rfl, rfl⟩⟩⟩
  · simp at h; omega
  · simp at h; omega
theorem zB : ∀ i z, Try.prog.info? 5 = some i → i.zero = some z → z.cells.toList = bE 0 := fun i z hi hz => by
  have h0 : (Try.prog.info? 5).bind (·.zero) = some (.int .u8 0) := by kernel_rfl
  rw [hi] at h0
  simp [hz] at h0
  subst h0
  rfl
theorem nNum_ok {H : PHeap} {w : Nat} {n : Int} (h1 : 1 ≤ w) (h4 : w ≤ 4) (hn : n ≤ 9223372036854775807) :
    Triple Try.prog 28 #[.int .i64 w, .int .i64 n] H fun v H' => ∃ b c, v = .slice b w c ∧ OwnL H' 5 bE 1 b w c (numB w (maxI n 0)) ∧ Sub H H' ∧ Off H b := by
  refine nNum.vc w n H _ ((nWidth_ok h1 h4).mono ?_)
  rintro _ H ⟨rfl, rfl⟩
  refine ⟨_, rfl, makeSlice_own tB (E := bE) (Z := 0) zB rfl (by omega) (by simp [maxLen]; omega) fun b H1 hb how hf => ⟨at0 b, w, w, rfl, ?_⟩⟩
  have e0 : (bif decide (n < 0) then 0 else n) = maxI n 0 := by unfold maxI; by_cases h : n < 0 <;> simp [h]
  have e1 : IntKind.i64.wrap ((w : Int) - 1) = (w : Int) - 1 := wrap64 (by omega) (by omega)
  rw [e0, e1]
  have hN0 : 0 ≤ maxI n 0 := by unfold maxI; split <;> omega
  have hN1 : maxI n 0 ≤ 9223372036854775807 := by unfold maxI; split <;> omega
  generalize maxI n 0 = N at *
  refine ⟨fun t H' => match t with | [.int _ m, .int _ j] => -1 ≤ j ∧ j < w ∧ m = N / 2 ^ (8 * ((w : Int) - 1 - j).toNat) ∧ Sub H H' ∧ ∃ l : List Int, OwnL H' 5 bE 1 (at0 b) w w l ∧ ∀ i : Nat, i < w → j < i → l[i]? = some (Pak.byteOf w N i) | _ => False,
    fun t _ => match t with | [_, .int _ j] => (j + 1).toNat | _ => 0, ⟨by omega, by omega, ?_, ?_, _, how, fun i hi hj => by omega⟩, ?_⟩
  · rw [show ((w : Int) - 1 - ((w : Int) - 1)).toNat = 0 by omega]; simp
  · exact ⟨fun q o hq => hf q o hq fun a ha => by cases ha⟩
  · rintro m j H2 ⟨j0, j1, hm, hs, l, how2, hl⟩
    have hlen := (how2.rd (E := bE) (sz := 1) (by omega) bLen).len
    have hm0 : 0 ≤ m := by rw [hm]; exact Int.ediv_nonneg hN0 (Int.pow_nonneg (by omega))
    have hm1 : m ≤ N := by rw [hm]; exact Int.ediv_le_self _ hN0
    refine ⟨fun hj => ?_, fun hj => ?_⟩
    · have hj' : 0 ≤ j := by simpa using hj
      have ew : IntKind.u8.wrap (m.tmod 256) = Pak.byteOf w N j.toNat := by
        rw [Int.tmod_eq_emod_of_nonneg hm0]
        unfold Pak.byteOf
        rw [show 8 * (w - 1 - j.toNat) = 8 * ((w : Int) - 1 - j).toNat by omega, ← hm]
        simp [IntKind.wrap, IntKind.bits, IntKind.signed]
      obtain ⟨H3, hw, how3, hf3⟩ := Owns.set bLen how2 (by omega) (i := j) (by omega) (by omega) (Pak.byteOf w N j.toNat)
      have ed : IntKind.i64.wrap (m.tdiv 256) = m / 256 := by
        rw [Int.tdiv_eq_ediv_of_nonneg hm0]
        exact wrap64 (by omega) (by omega)
      have ej : IntKind.i64.wrap (j - 1) = j - 1 := wrap64 (by omega) (by omega)
      rw [ew, ed, ej]
      refine ⟨⟨by omega⟩, ⟨by simp [at0], by omega, by omega⟩, H3, hw, ⟨by omega⟩, ⟨by omega, by omega, ?_, hf3.sub hs (off_at0 hb), _, how3, fun i hi hji => ?_⟩, ⟨by simp only; omega⟩⟩
      · rw [hm, show ((w : Int) - 1 - (j - 1)).toNat = ((w : Int) - 1 - j).toNat + 1 by omega, Nat.mul_add, Int.pow_add, Int.ediv_ediv_of_nonneg (Int.pow_nonneg (by omega))]
        rfl
      · by_cases e : i = j.toNat
        · subst e; rw [List.getElem?_set_self (by omega)]
        · rw [List.getElem?_set_ne (fun e2 => e e2.symm)]; exact hl i hi (by omega)
    · have hj' : j = -1 := by simp at hj; omega
      subst hj'
      refine ⟨at0 b, w, rfl, ?_, hs, off_at0 hb⟩
      have : l = numB w N := by
        refine List.ext_getElem? fun i => ?_
        by_cases hi : i < w
        · rw [hl i hi (by omega)]; simp [numB, hi]
        · rw [List.getElem?_eq_none (by omega), List.getElem?_eq_none (by rw [numB_len]; omega)]
      rwa [this] at how2
end Go.Gat
