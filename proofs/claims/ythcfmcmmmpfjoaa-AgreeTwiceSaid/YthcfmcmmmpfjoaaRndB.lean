/- The contracts of a round's methods. -/
import Derived.Test.YthcfmcmmmpfjoaaRndI
import Derived.Test.YthcfmcmmmpfjoaaShelf
namespace Go.Rnd
open Go.Vx Go.Vc Go.Proofs

theorem sortI : SortC Try.prog 61 (Value.int .i64) (fun zs : List Int => zs.mergeSort fun x y => decide (x ≤ y)) :=
  ⟨fun blk cap zs w h1 h2 h3 => Try.slices_Sort_int blk 0 cap zs w h1 h2 h3, fun cap w => Try.slices_Sort_int_none none cap w, fun zs => List.length_mergeSort _⟩
abbrev vM (m : Msg) : Value := .agg (mE m).toArray
theorem mapT : MapT Try.prog 86 (Value.int .i64) (vM z0) := ⟨3, 32, .int .i64, by kernel_rfl, by kernel_rfl, by kernel_rfl, fun _ => rfl, fun a b h => by injection h⟩
theorem getD_vM (o : Option Msg) : (o.map vM).getD (vM z0) = vM (o.getD z0) := by cases o <;> rfl
/-- The block k holds a round, apart from F, which holds what it reads. -/
structure RdS (F H : PHeap) (k : Nat) (asks : List Msg) (wait : List Int) (got : List (Int × Msg)) (tries : Int) : Prop where
  sub : Sub F H
  off : F k = none
  row : ∃ oa n c ob m d gb, Bx H k 88 [.slice oa n c, .slice ob m d, .map (some gb), .int .i64 tries] ∧ RdL F mE 13 oa n asks ∧ RdL F iE 1 ob m wait ∧ Mp H gb (Value.int .i64) vM got ∧ F gb = none ∧ gb ≠ k ∧ n ≤ 100000 ∧ m ≤ 100000
theorem RdS.mono {F H H' : PHeap} {k : Nat} {asks : List Msg} {wait : List Int} {got : List (Int × Msg)} {tries : Int} (h : RdS F H k asks wait got tries) (hs : Sub H H') : RdS F H' k asks wait got tries := by
  obtain ⟨oa, n, c, ob, m, d, gb, h1, h2, h3, h4, h5⟩ := h.row
  exact ⟨h.sub.trans hs, h.off, oa, n, c, ob, m, d, gb, h1.sub hs, h2, h3, h4.mono fun o ho => hs.le _ _ ho, h5⟩
theorem neP (k : Nat) : Ob (at0 k ≠ none) := ⟨by simp [at0]⟩
theorem new_ok {H : PHeap} {oa ob : Option Addr} {n c m d : Nat} {asks : List Msg} {wait : List Int} {tries : Int} (h1 : RdL H mE 13 oa n asks) (h2 : RdL H iE 1 ob m wait) (hn : n ≤ 100000) (hm : m ≤ 100000) :
    Triple Try.prog 44 #[.int .i64 tries, .slice oa n c, .slice ob m d] H fun v H' => ∃ k F, v = .pointer (at0 k) ∧ RdS F H' k asks wait [] (maxI tries 0) ∧ Sub H F := by
  refine newR.vc tries oa n c ob m d H _ ((cloneM_ok h1 hn).mono ?_)
  rintro _ H1 ⟨b1, k1, rfl, g1, s1, _⟩
  refine ⟨b1, n, k1, rfl, (cloneI_ok (h2.mono s1) hm).mono ?_⟩
  rintro _ H2 ⟨b2, k2, rfl, g2, s2, _⟩
  refine ⟨b2, m, k2, rfl, makeMap_mp fun b hb => ⟨some b, rfl, fun k hk => ?_⟩⟩
  have hkb : b ≠ k := fun e => by rw [e, upd_eq] at hk; cases hk
  have hk2 : H2 k = none := by rwa [Vx.upd_ne _ _ (fun e => hkb e.symm)] at hk
  refine ⟨k, H2, rfl, ⟨(Sub.upd _ hb).trans (Sub.upd _ hk), hk2, b1, n, k1, b2, m, k2, b, Bx.new _ k _ _, (g1.rd (E := mE) (sz := 13) (by omega) mLen).mono s2, g2.rd (E := iE) (sz := 1) (by omega) iLen, ?_, hb, hkb, hn, hm⟩, s1.trans s2⟩
  exact (Mp.new H2 b _ _).mono fun o ho => (Sub.upd _ hk).le _ _ ho
theorem asks_ok {F H : PHeap} {k : Nat} {asks : List Msg} {wait : List Int} {got : List (Int × Msg)} {tries : Int} (h : RdS F H k asks wait got tries) :
    Triple Try.prog 46 #[.pointer (at0 k)] H fun v H' => ∃ b n c, v = .slice b n c ∧ OwnL H' 32 mE 13 b n c asks ∧ Sub H H' ∧ Off H b := by
  obtain ⟨oa, n, c, ob, m, d, gb, h1, h2, h3, h4, h5, h6, h7, h8⟩ := h.row
  refine asksR.vc (at0 k) H _ ⟨fun e => by simp [at0] at e, fun _ => ⟨neP k, neP k, oa, n, c, h1.readsAt 0 (fun j v hv => ?_), (cloneM_ok (h2.mono h.sub) h7).mono ?_⟩⟩
  · match j, hv with
    | 0, hv => simpa using hv
    | j + 1, hv => simp at hv
  · rintro _ H' ⟨b, q, rfl, g1, g2, g3⟩
    exact ⟨b, n, q, rfl, b, n, q, rfl, g1, g2, g3⟩
theorem asks_nil (H : PHeap) : Triple Try.prog 46 #[.pointer none] H fun v H' => v = .slice none 0 0 ∧ H' = H := asksR.vc none H _ ⟨fun _ => ⟨rfl, rfl⟩, fun h => by simp at h⟩
/-- Everybody has answered. -/
def allB (wait : List Int) (got : List (Int × Msg)) : Bool := wait.all fun i => (mlook got i).isSome
theorem all_ok {F H : PHeap} {k : Nat} {asks : List Msg} {wait : List Int} {got : List (Int × Msg)} {tries : Int} (h : RdS F H k asks wait got tries) :
    Triple Try.prog 27 #[.pointer (at0 k)] H fun v H' => v = .bool (allB wait got) ∧ Sub H H' := by
  refine allR.vc (at0 k) H _ fun k2 hk2 => ?_
  have hs2 := Sub.upd (.cells #[.pointer (at0 k)] 63) hk2
  have b2 : Bx (H.upd k2 (.cells #[.pointer (at0 k)] 63)) k2 63 [.pointer (at0 k)] := Bx.new H k2 _ [.pointer (at0 k)]
  generalize H.upd k2 (.cells #[.pointer (at0 k)] 63) = H2 at *
  have h' := h.mono hs2
  obtain ⟨oa, n, c, ob, m, d, gb, h1, h2, h3, h4, h5, h6, h7, h8⟩ := h'.row
  refine ⟨at0 k, b2.reads, fun e => by simp [at0] at e, fun _ => ⟨at0 k, b2.reads, neP k, neP k, ob, m, d, h1.readsAt 1 (fun j v hv => ?_), ?_⟩⟩
  · match j, hv with
    | 0, hv => simpa using hv
    | j + 1, hv => simp at hv
  refine (contFunc_ok (F := H2) (p := fun i => !(mlook got i).isSome) (Sub.refl _) (h3.mono h'.sub) h8 fun H1 i Q hs hQ => ?_).mono ?_
  · refine CallY.fn (by kernel_rfl) ?_
    have hb := h1.sub hs
    refine allR1.vc i (at0 k2) H1 Q ⟨at0 k, (b2.sub hs).reads, neP k, neP k, some gb, hb.readsAt 2 (fun j v hv => ?_), map_get mapT (h4.mono fun o ho => hs.le _ _ ho) ?_⟩
    · match j, hv with
      | 0, hv => simpa using hv
      | j + 1, hv => simp at hv
    · rw [if_pos rfl, getD_vM]
      obtain ⟨y1, y2, y3, y4, y5, y6, y7, y8, y9, y10, ⟨ya, yb, yc, yl⟩, ⟨za, zb, zc, zl⟩, ⟨wa, wb, wc, wl⟩⟩ := (mlook got i).getD z0
      exact ⟨y1, y2, y3, y4, y5, y6, y7, y8, y9, y10, ya, yb, yc, za, zb, zc, wa, wb, wc, _, rfl, hQ H1 (Sub.refl _)⟩
  · rintro _ H3 ⟨rfl, hs3⟩
    refine ⟨_, rfl, ?_, hs2.trans hs3⟩
    congr 1
    unfold allB
    rw [List.any_eq_not_all_not]
    simp
theorem all_nil (H : PHeap) : Triple Try.prog 27 #[.pointer none] H fun v H' => v = .bool false ∧ Sub H H' := by
  refine allR.vc none H _ fun k2 hk2 => ?_
  have b2 : Bx (H.upd k2 (.cells #[.pointer none] 63)) k2 63 [.pointer none] := Bx.new H k2 _ [.pointer none]
  exact ⟨none, b2.reads, fun _ => ⟨rfl, Sub.upd _ hk2⟩, fun e => by simp at e⟩
/-- Does an answer count? -/
def takesB (wait : List Int) (got : List (Int × Msg)) (m : Msg) : Bool := decide (from_ m ∈ wait) && (mlook got (from_ m)).isNone
theorem take_ok {F H : PHeap} {k : Nat} {asks : List Msg} {wait : List Int} {got : List (Int × Msg)} {tries : Int} {m : Msg} (h : RdS F H k asks wait got tries) :
    Triple Try.prog 26 #[.pointer (at0 k), vM m] H fun v H' => v = .bool (takesB wait got m) ∧ RdS F H' k asks wait (if takesB wait got m then got ++ [(from_ m, m)] else got) tries := by
  obtain ⟨oa, n, c, ob, q, d, gb, h1, h2, h3, h4, h5, h6, h7, h8⟩ := h.row
  obtain ⟨y1, y2, y3, y4, y5, y6, y7, y8, y9, y10, ⟨ya, yb, yc, yl⟩, ⟨za, zb, zc, zl⟩, ⟨wa, wb, wc, wl⟩⟩ := m
  have r2 : ∀ {G : PHeap}, Sub H G → Reads G (fldA (at0 k) 2) [.map (some gb)] := fun hs => (h1.sub hs).readsAt 2 (fun j v hv => by
    match j, hv with
    | 0, hv => simpa using hv
    | j + 1, hv => simp at hv)
  refine takeR.vc (at0 k) y1 y2 y3 y4 y5 y6 y7 y8 y9 y10 ya yb yc za zb zc wa wb wc H _ ⟨H, Sub.refl _, fun _ => ⟨neP k, neP k, ob, q, d, h1.readsAt 1 (fun j v hv => ?_), (contains_ok (h3.mono h.sub) h8).mono ?_⟩, fun e => by simp [at0] at e⟩
  · match j, hv with
    | 0, hv => simpa using hv
    | j + 1, hv => simp at hv
  rintro _ H ⟨rfl, rfl⟩
  refine ⟨_, rfl, fun hb => ?_, fun hb => ?_⟩
  · have hno : y2 ∉ wait := by simpa using hb
    have e : takesB wait got (y1, y2, y3, y4, y5, y6, y7, y8, y9, y10, ⟨ya, yb, yc, yl⟩, ⟨za, zb, zc, zl⟩, ⟨wa, wb, wc, wl⟩) = false := by simp [takesB, hno]
    rw [e]; exact ⟨rfl, h⟩
  · have hin : y2 ∈ wait := by simpa using hb
    refine ⟨H, Sub.refl _, neP k, neP k, some gb, r2 (Sub.refl _), map_get mapT h4 ?_⟩
    rw [if_pos rfl, getD_vM]
    have hM : ∀ M : Msg, ∃ (n31 n32 n33 n34 : Int) (s35 : ByteArray) (n36 n37 n38 n39 n40 : Int) (a41 : Option Addr) (k42 k43 : Nat) (a44 : Option Addr) (k45 k46 : Nat) (a47 : Option Addr) (k48 k49 : Nat), vM M = .agg #[.int .i64 n31, .int .i64 n32, .int .i64 n33, .int .i64 n34, .string s35, .int .i64 n36, .int .i64 n37, .int .i64 n38, .int .i64 n39, .int .i64 n40, .slice a41 k42 k43, .slice a44 k45 k46, .slice a47 k48 k49] := fun M => by
      obtain ⟨x1, x2, x3, x4, x5, x6, x7, x8, x9, x10, ⟨xa, xb, xc, xl⟩, ⟨va, vb, vc, vl⟩, ⟨ua, ub, uc, ul⟩⟩ := M
      exact ⟨x1, x2, x3, x4, x5, x6, x7, x8, x9, x10, xa, xb, xc, va, vb, vc, ua, ub, uc, rfl⟩
    obtain ⟨n31, n32, n33, n34, s35, n36, n37, n38, n39, n40, a41, k42, k43, a44, k45, k46, a47, k48, k49, eM⟩ := hM ((mlook got y2).getD z0)
    refine ⟨n31, n32, n33, n34, s35, n36, n37, n38, n39, n40, a41, k42, k43, a44, k45, k46, a47, k48, k49, _, by rw [eM], fun k5 hk5 => ?_⟩
    have hs5 := Sub.upd (.cells (mE z0).toArray 32 (0, 0)) hk5
    have b5 : Bx (H.upd k5 (.cells (mE z0).toArray 32 (0, 0))) k5 32 (mE z0) := Bx.new H k5 _ _
    refine ⟨hs5, _, b5.writes [.int .i64 n31, .int .i64 n32, .int .i64 n33, .int .i64 n34, .string s35, .int .i64 n36, .int .i64 n37, .int .i64 n38, .int .i64 n39, .int .i64 n40, .slice a41 k42 k43, .slice a44 k45 k46, .slice a47 k48 k49] rfl, fun his => ?_, fun his => ?_⟩
    · have e : takesB wait got (y1, y2, y3, y4, y5, y6, y7, y8, y9, y10, ⟨ya, yb, yc, yl⟩, ⟨za, zb, zc, zl⟩, ⟨wa, wb, wc, wl⟩) = false := by
        simp only [takesB, from_]
        cases hl : mlook got y2 with
        | none => rw [hl] at his; simp at his
        | some v => simp
      rw [e]
      exact ⟨rfl, h.mono (Bx.sub_of hs5 hk5)⟩
    · have hln : mlook got y2 = none := by
        cases hl : mlook got y2 with
        | none => rfl
        | some v => rw [hl] at his; simp at his
      have e : takesB wait got (y1, y2, y3, y4, y5, y6, y7, y8, y9, y10, ⟨ya, yb, yc, yl⟩, ⟨za, zb, zc, zl⟩, ⟨wa, wb, wc, wl⟩) = true := by
        simp [takesB, from_, hln, hin]
      rw [e]
      have hs6 := Bx.sub_of (o := .cells [Value.int .i64 n31, .int .i64 n32, .int .i64 n33, .int .i64 n34, .string s35, .int .i64 n36, .int .i64 n37, .int .i64 n38, .int .i64 n39, .int .i64 n40, .slice a41 k42 k43, .slice a44 k45 k46, .slice a47 k48 k49].toArray 32 (0, 0)) hs5 hk5
      have h6' := h.mono hs6
      refine ⟨_, Sub.refl _, neP k, neP k, some gb, r2 hs6, ?_⟩
      refine map_put (vE := vM) (v := (y1, y2, y3, y4, y5, y6, y7, y8, y9, y10, ⟨ya, yb, yc, yl⟩, ⟨za, zb, zc, zl⟩, ⟨wa, wb, wc, wl⟩)) mapT (h4.mono fun o ho => hs6.le _ _ ho) fun o hmp => ?_
      rw [mlay_none hln] at hmp
      exact ⟨rfl, ⟨Bx.sub_of h6'.sub h5, h.off, oa, n, c, ob, q, d, gb, (h1.sub hs6).upd_ne _ (fun e => h6 e.symm), h2, h3, by rw [if_pos rfl]; exact hmp, h5, h6, h7, h8⟩⟩
theorem take_nil (H : PHeap) (m : Msg) : Triple Try.prog 26 #[.pointer none, vM m] H fun v H' => v = .bool false ∧ H' = H := by
  obtain ⟨y1, y2, y3, y4, y5, y6, y7, y8, y9, y10, ⟨ya, yb, yc, yl⟩, ⟨za, zb, zc, zl⟩, ⟨wa, wb, wc, wl⟩⟩ := m
  exact takeR.vc none y1 y2 y3 y4 y5 y6 y7 y8 y9 y10 ya yb yc za zb zc wa wb wc H _ ⟨H, Sub.refl _, fun e => by simp at e, fun _ => ⟨rfl, rfl⟩⟩
end Go.Rnd
