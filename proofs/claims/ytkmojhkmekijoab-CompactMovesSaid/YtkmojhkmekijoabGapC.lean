/- The contracts of compact.Gaps and of its reference. -/
import Derived.Test.YtkmojhkmekijoabCompM
import Derived.Test.YtkmojhkmekijoabGapP
import Derived.Test.YtkmojhkmekijoabVcGaps
namespace Go.Comp
open Go.Vx Go.Vc Go.Proofs

/-- What the three variables of Gaps hold. -/
structure GapSt (F H : PHeap) (k5 k15 k6 : Nat) (slots next : Int) (L : List Rn) : Prop where
  bs : Bx H k5 3 [.int .i64 slots]
  bn : Bx H k15 3 [.int .i64 next]
  own : ∃ b m k, Bx H k6 36 [.slice b m k] ∧ OwnL H 47 E2 2 b m k L ∧ Off F b ∧ ∀ a, b = some a → a.block ≠ k5 ∧ a.block ≠ k15 ∧ a.block ≠ k6
  sub : Sub F H
  f : F k5 = none ∧ F k15 = none ∧ F k6 = none
  ne : k5 ≠ k15 ∧ k5 ≠ k6 ∧ k15 ≠ k6
theorem GapSt.len {F H : PHeap} {k5 k15 k6 : Nat} {slots next : Int} {L : List Rn} {b : Option Addr} {m k : Nat} (how : OwnL H 47 E2 2 b m k L) : L.length = m := (how.rd (E := E2) (sz := 2) (by omega) (fun _ => rfl)).len
theorem gaps1_ok {F H : PHeap} {k5 k15 k6 : Nat} {slots next to : Int} {L : List Rn} (h : GapSt F H k5 k15 k6 slots next L) (hL : L.length ≤ 100) (h1 : 0 ≤ next ∧ next ≤ 256) (h2 : 0 ≤ slots ∧ slots ≤ 256) (h3 : 0 ≤ to ∧ to ≤ 256) :
    Triple Try.prog 23 #[.int .i64 to, .pointer (at0 k5), .pointer (at0 k15), .pointer (at0 k6)] H fun v H' => v = .tuple #[] ∧ GapSt F H' k5 k15 k6 slots next (L ++ gapAdd slots next to) := by
  obtain ⟨b, m, k, hb, how, hoff, hsep⟩ := h.own
  have hm := GapSt.len (F := F) (k5 := k5) (k15 := k15) (k6 := k6) (slots := slots) (next := next) how
  refine gaps1.vc to (at0 k5) (at0 k15) (at0 k6) H _ ⟨slots, h.bs.reads, next, h.bn.reads, fun hc => ⟨b, m, k, hb.reads, next, h.bn.reads, next, h.bn.reads, fun k12 hk => ?_⟩, fun hc => ⟨rfl, ?_⟩⟩
  · have hmin : minI to slots - next ≤ 256 ∧ 0 ≤ minI to slots - next := by unfold minI at *; simp at hc; split at hc <;> rename_i q <;> simp only [q, if_true, if_false] <;> omega
    have ew : IntKind.i64.wrap (minI to slots - next) = minI to slots - next := wrap64 (by omega) (by omega)
    rw [ew]
    refine append_one tRuns hk (x := (next, minI to slots - next)) (fun _ => rfl) how rfl (oneE2 _) (by simp [maxLen]; omega) (by omega) ?_
    intro b' k' H' g1 g2 g3 _
    have hne : ∀ {q : Nat} {t : TypeId} {l : List Value}, Bx H q t l → (∀ a, b = some a → a.block ≠ q) → Bx H' q t l ∧ ∀ a, b' = some a → a.block ≠ q := by
      intro q t l hq hs
      refine ⟨hq.frame g2 fun a ha e => hs a ha e.symm, fun a ha e => ?_⟩
      rcases g3 a ha with ⟨a2, e2, e3⟩ | e2
      · exact hs a2 e2 (by rw [e3, e])
      · rw [e, hq] at e2; cases e2
    obtain ⟨s1, s2⟩ := hne h.bs fun a ha => (hsep a ha).1
    obtain ⟨n1, n2⟩ := hne h.bn fun a ha => (hsep a ha).2.1
    obtain ⟨o1, o2⟩ := hne hb fun a ha => (hsep a ha).2.2
    refine ⟨b', m + 1, k', rfl, _, o1.writes [.slice b' (m + 1) k'] rfl, rfl, s1.upd_ne _ h.ne.2.1, n1.upd_ne _ h.ne.2.2, ⟨b', m + 1, k', Bx.new _ _ _ _, ?_, g3.off h.sub hoff, fun a ha => ⟨s2 a ha, n2 a ha, o2 a ha⟩⟩, Bx.sub_of (g2.sub h.sub hoff) h.f.2.2, h.f, h.ne⟩
    have hg : gapAdd slots next to = [(next, minI to slots - next)] := by
      unfold gapAdd
      unfold minI at hc ⊢
      rw [if_pos (by simpa using hc)]
    rw [hg]
    exact g1.mono fun a o ha ho => by rw [upd_ne _ _ (o2 a ha)]; exact ho
  · have hg : gapAdd slots next to = [] := by
      unfold gapAdd
      unfold minI at hc
      rw [if_neg (by simpa using hc)]
    rw [hg, List.append_nil]
    exact h
def gapsOf (l : List Rn) (slots : Int) : List Rn := if apartF 0 l = true ∧ 1 ≤ slots ∧ slots ≤ 256 then gapsF slots 0 l else []
theorem gapAdd_len (slots next to : Int) : (gapAdd slots next to).length ≤ 1 := by unfold gapAdd; split <;> split <;> simp
theorem gaps_ok {H : PHeap} {oa : Option Addr} {n c : Nat} {l : List Rn} {slots : Int} (hl : RdL H E2 2 oa n l) (hn : n ≤ 60) (h64 : ∀ r ∈ l, -9223372036854775808 ≤ r.1 ∧ r.1 ≤ 9223372036854775807 ∧ -9223372036854775808 ≤ r.2 ∧ r.2 ≤ 9223372036854775807) :
    Triple Try.prog 16 #[.slice oa n c, .int .i64 slots] H fun v H' => ∃ b m k, v = .slice b m k ∧ OwnL H' 47 E2 2 b m k (gapsOf l slots) ∧ Sub H H' ∧ Off H b := by
  refine gaps.vc oa n c slots H _ fun k5 hk5 k6 hk6 => ?_
  have hne56 : k6 ≠ k5 := fun e => by rw [e, upd_eq] at hk6; cases hk6
  have hk6' : H k6 = none := by rwa [upd_ne _ _ hne56] at hk6
  have hs0 := (Sub.upd (.cells #[.int .i64 slots] 3 (0, 0)) hk5).trans (Sub.upd (.cells #[.slice none 0 0] 36 (0, 0)) hk6)
  have b5 : Bx ((H.upd k5 (.cells #[.int .i64 slots] 3 (0, 0))).upd k6 (.cells #[.slice none 0 0] 36 (0, 0))) k5 3 [.int .i64 slots] := (Bx.new H k5 _ [.int .i64 slots]).upd _ hk6
  have b6 : Bx ((H.upd k5 (.cells #[.int .i64 slots] 3 (0, 0))).upd k6 (.cells #[.slice none 0 0] 36 (0, 0))) k6 36 [.slice none 0 0] := Bx.new _ _ _ [.slice none 0 0]
  refine (apart_ok (hl.mono hs0) hn h64).mono ?_
  rintro _ _ ⟨rfl, rfl⟩
  have nil : ¬ (apartF 0 l = true ∧ 1 ≤ slots ∧ slots ≤ 256) → ∃ b m k, Value.slice none 0 0 = .slice b m k ∧ OwnL ((H.upd k5 (.cells #[.int .i64 slots] 3 (0, 0))).upd k6 (.cells #[.slice none 0 0] 36 (0, 0))) 47 E2 2 b m k (gapsOf l slots) ∧
      Sub H ((H.upd k5 (.cells #[.int .i64 slots] 3 (0, 0))).upd k6 (.cells #[.slice none 0 0] 36 (0, 0))) ∧ Off H b := fun hc => ⟨none, 0, 0, rfl, by rw [gapsOf, if_neg hc]; exact Owns.nil _ _ 2, hs0, Off.none _⟩
  refine ⟨_, rfl, fun ha => ⟨slots, b5.reads, fun h1 => ⟨slots, b5.reads, fun h2 => ⟨none, 0, 0, b6.reads, nil (by simp at h2; omega)⟩, fun h2 k15 hk15 => ?_⟩, fun h1 => ⟨none, 0, 0, b6.reads, nil (by simp at h1; omega)⟩⟩, fun ha => ⟨none, 0, 0, b6.reads, nil (by simp at ha; simp [ha])⟩⟩
  have hap : apartF 0 l = true := by simpa using ha
  have hge := apart_ge hap
  have hsl : 1 ≤ slots ∧ slots ≤ 256 := by simp at h1 h2; omega
  have b15 := Bx.new ((H.upd k5 (.cells #[.int .i64 slots] 3 (0, 0))).upd k6 (.cells #[.slice none 0 0] 36 (0, 0))) k15 3 [.int .i64 0]
  have hw := b15.writes [.int .i64 0] rfl
  have hne155 : k5 ≠ k15 := fun e => by rw [← e, b5] at hk15; cases hk15
  have hne156 : k6 ≠ k15 := fun e => by rw [← e, b6] at hk15; cases hk15
  have hk15' : H k15 = none := by
    rw [upd_ne _ _ (fun e => hne156 e.symm), upd_ne _ _ (fun e => hne155 e.symm)] at hk15; exact hk15
  have hupd : ∀ (G : PHeap) (o1 o2 : Obj), (G.upd k15 o1).upd k15 o2 = G.upd k15 o2 := fun G o1 o2 => funext fun k => by unfold PHeap.upd; split <;> rfl
  rw [hupd] at hw
  refine ⟨_, hw, fun l' H' => match l' with | [.int _ i] => 0 ≤ i ∧ i ≤ n ∧ ∃ next L, GapSt H H' k5 k15 k6 slots next L ∧ L ++ gapsF slots next (l.drop i.toNat) = gapsF slots 0 l ∧ (L.length : Int) ≤ i ∧ 0 ≤ next ∧ next ≤ 256 | _ => False,
    fun l' _ => match l' with | [.int _ i] => ((n : Int) - i).toNat | _ => 0, ⟨by omega, by omega, 0, [], ⟨b5.upd _ hk15, Bx.new _ _ _ _, ⟨none, 0, 0, b6.upd _ hk15, Owns.nil _ _ 2, Off.none _, fun _ e => by cases e⟩, hs0.trans (Sub.upd _ hk15), ⟨hk5, hk15', hk6'⟩, ⟨hne155, fun e => hne56 e.symm, fun e => hne156 e.symm⟩⟩, rfl, by simp, by omega, by omega⟩, ?_⟩
  rintro i H1 ⟨i0, i1, next, L, hst, hgs, hLl, n0, n1⟩
  refine ⟨fun hi => ?_, fun hi => ?_⟩
  · have hin : i < n := by simpa using hi
    obtain ⟨r, hr, hrd⟩ := (hl.mono hst.sub).ex i0 hin
    have hrg := hge r (List.mem_of_getElem? hr)
    have hd : l.drop i.toNat = r :: l.drop (i.toNat + 1) := by rw [List.drop_eq_getElem?_toList_append, hr]; rfl
    refine ⟨hl.ob i0 hin, r.1, r.2, hrd, (gaps1_ok hst (by omega) ⟨n0, n1⟩ (by omega) (by omega)).mono ?_⟩
    rintro _ H2 ⟨rfl, hst2⟩
    have e1 : IntKind.i64.wrap (r.1 + r.2) = r.1 + r.2 := wrap64 (by omega) (by omega)
    have e2 : IntKind.i64.wrap (i + 1) = i + 1 := wrap64 (by omega) (by omega)
    rw [e1, e2]
    obtain ⟨b, m, k, hb, how, hoff, hsep⟩ := hst2.own
    refine ⟨rfl, _, hst2.bn.writes [.int .i64 (r.1 + r.2)] rfl, ⟨by omega, by omega, r.1 + r.2, L ++ gapAdd slots next r.1, ⟨hst2.bs.upd_ne _ hst2.ne.1, Bx.new _ _ _ _, ⟨b, m, k, hb.upd_ne _ (fun e => hst2.ne.2.2 e.symm), how.mono (fun a o ha ho => by rw [upd_ne _ _ (hsep a ha).2.1]; exact ho), hoff, hsep⟩,
      Bx.sub_of hst2.sub hst2.f.2.1, hst2.f, hst2.ne⟩, ?_, ?_, by omega, by omega⟩, ⟨by simp only; omega⟩⟩
    · rw [show (i + 1).toNat = i.toNat + 1 by omega, ← hgs, hd, gapsF, List.append_assoc]
    · have := gapAdd_len slots next r.1
      rw [List.length_append]; omega
  · have hin : i = n := by simp at hi; omega
    rw [List.drop_of_length_le (by have := hl.len; omega), gapsF] at hgs
    refine ⟨slots, hst.bs.reads, (gaps1_ok hst (by omega) ⟨n0, n1⟩ (by omega) (by omega)).mono ?_⟩
    rintro _ H2 ⟨rfl, hst2⟩
    obtain ⟨b, m, k, hb, how, hoff, hsep⟩ := hst2.own
    refine ⟨rfl, b, m, k, hb.reads, b, m, k, rfl, ?_, hst2.sub, hoff⟩
    rw [gapsOf, if_pos ⟨hap, hsl⟩, ← hgs]
    exact how

theorem tRefs2 : ElemT Try.prog 33 42 2 16 := .of (by kernel_rfl)
theorem covB_iff (l : List Rn) (i : Nat) : covB l i = true ↔ Cov l i := by
  unfold covB Cov covers
  simp [List.any_eq_true]
theorem push_mem {out : List Rn} {i : Int} {r : Rn} (h : r ∈ push out i) : r ∈ out ∨ r = (i, 1) ∨ ∃ q ∈ out, r = (q.1, q.2 + 1) := by
  unfold push at h
  split at h
  · rename_i q hq
    have hqm := List.mem_of_getLast? hq
    split at h
    · rcases List.mem_append.1 h with h | h
      · exact .inl ((List.dropLast_sublist out).subset h)
      · simp at h; exact .inr (.inr ⟨q, hqm, h⟩)
    · rcases List.mem_append.1 h with h | h
      · exact .inl h
      · simp at h; exact .inr (.inl h)
  · simp at h; exact .inr (.inl h)
theorem scan_pos (c : Nat → Bool) : ∀ (k : Nat) (r : Rn), r ∈ scan c k → 0 ≤ r.1 ∧ 1 ≤ r.2
  | 0, r, h => by simp [scan] at h
  | k + 1, r, h => by
    unfold scan at h
    split at h
    · exact scan_pos c k r h
    · rcases push_mem h with h | rfl | ⟨q, hq, rfl⟩
      · exact scan_pos c k r h
      · simp only; omega
      · have := scan_pos c k q hq; simp only; omega
theorem push_len (out : List Rn) (i : Int) : (push out i).length ≤ out.length + 1 := by
  unfold push
  split
  · split <;> simp
  · simp
theorem scan_len (c : Nat → Bool) : ∀ k : Nat, (scan c k).length ≤ k
  | 0 => by simp [scan]
  | k + 1 => by
    unfold scan
    have := scan_len c k
    split
    · omega
    · have := push_len (scan c k) k; omega
theorem refGaps_ok {H : PHeap} {oa : Option Addr} {n c : Nat} {l : List Rn} {slots : Int} (hl : RdL H E2 2 oa n l) (hn : n ≤ 60) (h64 : ∀ r ∈ l, -9223372036854775808 ≤ r.1 ∧ r.1 ≤ 9223372036854775807 ∧ -9223372036854775808 ≤ r.2 ∧ r.2 ≤ 9223372036854775807)
    (hap : apartF 0 l = true) (h1 : 1 ≤ slots) (h2 : slots ≤ 256) :
    Triple Try.prog 18 #[.slice oa n c, .int .i64 slots] H fun v H' => ∃ b m k, v = .slice b m k ∧ OwnL H' 42 E2 2 b m k (gapsF slots 0 l) ∧ Sub H H' ∧ Off H b := by
  refine refGaps.vc oa n c slots H _ ((map_ok hl hn h64).mono ?_)
  rintro _ H1 ⟨a, c1, bb, out, rfl, hb, hout, hok, hs1, _⟩
  have hbt : bb = true := hb.2 ((apart_iff l).1 hap).1
  obtain ⟨hol, hov⟩ := hok hbt
  have hrd := hout.rd (E := intE .i64) (sz := 1) (by omega) (fun _ => rfl)
  refine ⟨_, _, _, _, rfl, fun l' H' => match l' with | [.slice b m k, .int _ i] => 0 ≤ i ∧ i ≤ slots ∧ OwnL H' 42 E2 2 b m k (scan (covB l) i.toNat) ∧ Sub H1 H' ∧ Off H1 b | _ => False,
    fun l' _ => match l' with | [_, .int _ i] => (slots - i).toNat | _ => 0, ⟨by omega, by omega, Owns.nil _ _ 2, Sub.refl H1, Off.none _⟩, ?_⟩
  rintro b m k i H2 ⟨i0, i1, how, hs, hoff⟩
  refine ⟨fun hi => ?_, fun hi => ?_⟩
  · have hin : i < slots := by simpa using hi
    have e1 : IntKind.i64.wrap (i + 1) = i + 1 := wrap64 (by omega) (by omega)
    rw [e1]
    obtain ⟨v, hv1, hv2⟩ := hov i.toNat (by omega)
    rw [← covB_iff] at hv2
    have hobs : Ob (a ≠ none ∧ 0 ≤ i ∧ i < ((256 : Nat) : Int)) := hrd.ob i0 (by omega)
    have hsucc : (i + 1).toNat = i.toNat + 1 := by omega
    have hrd2 := how.rd (E := E2) (sz := 2) (by omega) (fun _ => rfl)
    have hm := hrd2.len
    have hsl := scan_len (covB l) i.toNat
    have hii : ((i.toNat : Nat) : Int) = i := by omega
    refine ⟨hobs, v, (hrd.mono hs).at i0 hv1, fun hv => ⟨⟨by omega, by omega, ?_, hs, hoff⟩, ⟨by simp only; omega⟩⟩, fun hv => ⟨H2, Sub.refl _, fun hk => ?_, fun hk => ?_⟩⟩
    · rw [hsucc, scan, if_pos (hv2.1 (by simpa using hv))]; exact how
    · have hcov : ¬ covB l i.toNat = true := fun h => by have := hv2.2 h; simp at hv; omega
      have ek : IntKind.i64.wrap ((m : Int) - 1) = m - 1 := wrap64 (by omega) (by omega)
      rw [ek] at hk ⊢
      have hmp : 1 ≤ m := by simp at hk; omega
      obtain ⟨L, x, hLx⟩ : ∃ L x, scan (covB l) i.toNat = L ++ [x] := ⟨_, _, (List.dropLast_concat_getLast (l := scan (covB l) i.toNat) (fun e => by rw [e] at hm; simp at hm; omega)).symm⟩
      have hx : (scan (covB l) i.toNat)[(((m : Int) - 1)).toNat]? = some x := by
        rw [hLx]
        have : L.length + 1 = m := by rw [← hm, hLx]; simp
        rw [List.getElem?_append_right (by omega), show (((m : Int) - 1)).toNat - L.length = 0 by omega]
        rfl
      have hxl := scan_le (covB l) i.toNat x (by rw [hLx, List.getLast?_concat])
      have hxp := scan_pos (covB l) i.toNat x (by rw [hLx]; simp)
      have hxd := hrd2.at (i := (m : Int) - 1) (by omega) hx
      have x0 := hxd.fld 0 (l2 := [.int .i64 x.1]) (fun j v hv => by cases j with | zero => simpa [E2, pairE, intE] using hv | succ j => simp at hv)
      have x1 := hxd.fld 1 (l2 := [.int .i64 x.2]) (fun j v hv => by cases j with | zero => simpa [E2, pairE, intE] using hv | succ j => simp at hv)
      have ob := hrd2.ob (i := (m : Int) - 1) (by omega) (by omega)
      have ob2 : Ob (elemA b ((m : Int) - 1) 2 ≠ none) := ⟨hrd2.elem_ne (by omega) (by omega)⟩
      have ew : IntKind.i64.wrap (x.1 + x.2) = x.1 + x.2 := wrap64 (by omega) (by omega)
      have ew2 : IntKind.i64.wrap (x.2 + 1) = x.2 + 1 := wrap64 (by omega) (by omega)
      refine ⟨ob, ob2, x.1, x0, ob, ob2, x.2, x1, ?_⟩
      rw [ew]
      refine ⟨fun hc => ⟨H2, Sub.refl _, ob, ob2, x.1, x0, ob, ob2, x.2, x1, ob, ?_⟩, fun hc kk hkk => ?_⟩
      · obtain ⟨H3, hw, how3, hf3⟩ := how.set (E := E2) (sz := 2) (fun _ => rfl) (by omega) (show (0 : Int) ≤ (m : Int) - 1 by omega) (by omega) (x.1, x.2 + 1)
        rw [ew2]
        refine ⟨H3, hw, ⟨by omega, by omega, ?_, hf3.sub hs hoff, hoff⟩, ⟨by simp only; omega⟩⟩
        rw [hsucc, scan, if_neg hcov, hLx, push_snoc, if_pos (by rw [hii]; simpa using hc)]
        rw [hLx] at how3
        have : (((m : Int) - 1)).toNat = L.length := by rw [← hm, hLx]; simp
        rw [this, List.set_append_right _ _ (Nat.le_refl _)] at how3
        simpa using how3
      · refine append_one tRefs2 hkk (x := (i, 1)) (fun _ => rfl) how rfl (oneE2 _) (by simp [maxLen]; omega) (by omega) ?_
        intro b' k' H' g1 g2 g3 _
        refine ⟨b', m + 1, k', rfl, ⟨by omega, by omega, ?_, g2.sub hs hoff, g3.off hs hoff⟩, ⟨by simp only; omega⟩⟩
        rw [hsucc, scan, if_neg hcov, hLx, push_snoc, if_neg (by rw [hii]; simpa using hc), ← hLx, hii]
        exact g1
    · have hcov : ¬ covB l i.toNat = true := fun h => by have := hv2.2 h; simp at hv; omega
      have ek : IntKind.i64.wrap ((m : Int) - 1) = m - 1 := wrap64 (by omega) (by omega)
      rw [ek] at hk
      have hm0 : m = 0 := by simp at hk; omega
      have hnil : scan (covB l) i.toNat = [] := List.eq_nil_of_length_eq_zero (by omega)
      intro kk hkk
      refine append_one tRefs2 hkk (x := (i, 1)) (fun _ => rfl) how rfl (oneE2 _) (by simp [maxLen]; omega) (by omega) ?_
      intro b' k' H' g1 g2 g3 _
      refine ⟨b', m + 1, k', rfl, ⟨by omega, by omega, ?_, g2.sub hs hoff, g3.off hs hoff⟩, ⟨by simp only; omega⟩⟩
      rw [hsucc, scan, if_neg hcov]
      rw [hnil] at g1 ⊢
      rw [hii]
      exact g1
  · have hin : i = slots := by simp at hi; omega
    obtain ⟨s, hs'⟩ : ∃ s : Nat, slots = s := ⟨slots.toNat, by omega⟩
    rw [hin, hs', Int.toNat_natCast] at how
    have := scan_gaps (covB l) s l 0 hap (fun _ _ => rfl) (fun r hr => by simp [scan] at hr) (by omega)
    simp only [scan, List.nil_append] at this
    rw [this] at how
    exact ⟨b, m, k, rfl, by rw [hs']; exact how, hs1.trans hs, fun x hx => by
      have h5 := hoff x hx
      cases e : H x.block with
      | none => rfl
      | some o => rw [hs1.le _ _ e] at h5; cases h5⟩
end Go.Comp
