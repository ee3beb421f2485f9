/- Gathering: Dump. -/
import Derived.Test.YtcdgeeakfoofpabGatC
import Derived.Test.YtcdgeeakfoofpabVxP
namespace Go.Gat
open Go.Vx Go.Vc Go.Proofs Go.Pak

/-! ### Keys, rising -/
theorem flat_int (l : List Int) : l.flatMap iE = l.map (Value.int .i64) := by
  induction l with
  | nil => rfl
  | cons x xs ih => rw [List.flatMap_cons, ih]; rfl
section
variable {ν : Type}
/-- The keys of these places. -/
def keysAt (got : List (Int × ν)) (js : List Nat) : List Int := js.filterMap fun j => (got[j]?).map (·.1)
theorem keysAt_perm {got : List (Int × ν)} {js : List Nat} (h : js.Perm (List.range got.length)) : (keysAt got js).Perm (got.map (·.1)) := by
  have h1 := h.filterMap fun j => (got[j]?).map (·.1)
  have h2 : (List.range got.length).filterMap (fun j => (got[j]?).map (·.1)) = got.map (·.1) := by
    have : ∀ l : List (Int × ν), (List.range l.length).filterMap (fun j => (l[j]?).map (·.1)) = l.map (·.1) := by
      intro l
      induction l with
      | nil => rfl
      | cons x xs ih =>
        rw [List.length_cons, List.range_succ_eq_map, List.filterMap_cons]
        simp only [List.getElem?_cons_zero, Option.map_some, List.filterMap_map, Function.comp_def, List.getElem?_cons_succ, List.map_cons]
        rw [ih]
    exact this got
  rw [h2] at h1
  exact h1
theorem keysAt_snoc {got : List (Int × ν)} {js : List Nat} {j : Nat} {x : Int × ν} (hx : got[j]? = some x) : keysAt got (js ++ [j]) = keysAt got js ++ [x.1] := by
  unfold keysAt
  rw [List.filterMap_append]
  simp [hx]
theorem keysAt_len {got : List (Int × ν)} (js : List Nat) : (keysAt got js).length ≤ js.length := List.length_filterMap_le _ _
/-- The keys, rising. -/
structure GotL (got : List (Int × ν)) (K : List Int) : Prop where
  perm : K.Perm (got.map (·.1))
  rise : K.Pairwise (· ≤ ·)
end
theorem sortI : SortC Try.prog 31 (Value.int .i64) (fun zs : List Int => zs.mergeSort fun x y => decide (x ≤ y)) :=
  ⟨fun blk cap zs w h1 h2 h3 => Try.slices_Sort_int blk 0 cap zs w h1 h2 h3, fun cap w => Try.slices_Sort_int_none none cap w, fun zs => List.length_mergeSort _⟩
theorem nodes_ok {F H : PHeap} {k : Nat} {gm : Option Nat} {kn : Bool} {who : List Int} {got : List (Int × BS)} (h : GaS F H k gm kn who got) (hg : got.length ≤ 1000) :
    Triple Try.prog 25 #[.pointer (at0 k)] H fun v H' => ∃ b n c K, v = .slice b n c ∧ GotL got K ∧ OwnL H' 3 iE 1 b n c K ∧ Sub H H' ∧ Off H b := by
  obtain ⟨oa, n, c, h1, h2, h3⟩ := h.row
  have tail : ∀ {b : Option Addr} {q kk : Nat} {K : List Int} {H1 : PHeap}, OwnL H1 3 iE 1 b q kk K → K.Perm (got.map (·.1)) → Sub H H1 → Off H b →
      Triple Try.prog 31 #[.slice b q kk] H1 fun v H2 => v = .tuple #[] ∧ ∃ b' n c K, .slice b q kk = Value.slice b' n c ∧ GotL got K ∧ OwnL H2 3 iE 1 b' n c K ∧ Sub H H2 ∧ Off H b' := by
    intro b q kk K H1 how hperm hs hoff
    have hKl := hperm.length_eq
    have hql := (how.rd (E := iE) (sz := 1) (by omega) iLen).len
    rw [List.length_map] at hKl
    have how1' : Owns H1 3 1 b q kk (K.map (Value.int .i64)) := by rw [← flat_int]; exact how
    refine (sort_ok sortI how1' (by omega)).mono ?_
    rintro _ H2 ⟨rfl, how2, hf2⟩
    rw [← flat_int] at how2
    refine ⟨rfl, b, q, kk, _, rfl, ⟨(List.mergeSort_perm _ _).trans hperm, ?_⟩, how2, hf2.sub hs hoff, hoff⟩
    have := List.pairwise_mergeSort (le := fun x y : Int => decide (x ≤ y)) (fun a b c h1 h2 => by simp at *; omega) (fun a b => by simp; omega) K
    exact this.imp fun h => by simpa using h
  rcases h.map with ⟨rfl, rfl⟩ | ⟨gb, rfl, h4, h5, h6⟩
  · refine nodes.vc (at0 k) H _ ⟨neP k, neP k, none, h1.r2, map_range_nil mapT fun r hr => ⟨at0 r, rfl, fun t H' => t = [.slice none 0 0] ∧ H' = H.upd r (.mapIter none 0 #[] 0), fun _ _ => 0, ⟨rfl, rfl⟩, ?_⟩⟩
    rintro b q kk H1 ⟨e, rfl⟩
    cases e
    refine map_next_nil (upd_eq ..) (.inl ⟨rfl, fun e => (by cases e), fun _ => (tail (K := []) (Owns.nil _ _ 1) (by simp) (Sub.upd _ hr) (Off.none _)).mono ?_⟩)
    rintro _ H2 ⟨rfl, b', n', c', K, e, g⟩
    cases e
    exact ⟨rfl, _, _, _, K, rfl, g⟩
  · have r2 : ∀ {G : PHeap}, Sub H G → Reads G (fldA (at0 k) 2) [.map (some gb)] := fun hs => (h1.sub hs).r2
    refine nodes.vc (at0 k) H _ ⟨neP k, neP k, some gb, h1.r2, map_range mapT h4 fun r o hr hit => ?_⟩
    have hsr := Sub.upd o hr
    refine ⟨at0 r, rfl, fun t H' => match t with | [.slice b q kk] => ∃ js o, It H' r gb iV sV got js ∧ H' r = some o ∧ Sub H H' ∧ OwnL H' 3 iE 1 b q kk (keysAt got js) ∧ Off (H.upd r o) b | _ => False, fun t H' => match H' r with | some (.mapIter _ _ seen _) => got.length - seen.size | _ => 0, ⟨[], o, hit, upd_eq .., hsr, Owns.nil _ _ 1, Off.none _⟩, ?_⟩
    rintro b q kk H1 ⟨js, o1, hit1, ho1, hs1, how1, hoff1⟩
    have hlen1 : (keysAt got js).length = q := (how1.rd (E := iE) (sz := 1) (by omega) iLen).len
    have hcnt := hit1.count
    have hkl := keysAt_len (got := got) js
    refine map_next hit1 (fun hall => .inl ⟨rfl, fun e => (by cases e), fun _ => ?_⟩) (fun j x o2 hx hj hit2 => .inr ⟨_, _, rfl, fun _ => ?_, fun e => by cases e⟩)
    · have hoffH : Off H b := fun a ha => by
        have := hoff1 a ha
        by_cases e : a.block = r
        · rw [e]; exact hr
        · rwa [Vx.upd_ne _ _ e] at this
      refine (tail how1 (keysAt_perm (hit1.all hall)) hs1 hoffH).mono ?_
      rintro _ H2 ⟨rfl, b', n', c', K, e, g⟩
      cases e
      exact ⟨rfl, _, _, _, K, rfl, g⟩
    · -- one more
      have hs2 : Sub H (H1.upd r o2) := Bx.sub_of hs1 hr
      refine map_entry_at hit2 hx ?_
      obtain ⟨key, s⟩ := x
      refine ⟨key, s.oa, s.n, s.c, rfl, fun k4 hk4 => ?_⟩
      have hbr : ∀ a, b = some a → a.block ≠ r := fun a ha e => by
        have := hoff1 a ha
        rw [e, upd_eq] at this; cases this
      have how2 : OwnL (H1.upd r o2) 3 iE 1 b q kk (keysAt got js) := Owns.mono how1 fun a o ha hb => by rw [Vx.upd_ne _ _ (hbr a ha)]; exact hb
      have hcnt2 := hit2.count
      rw [List.length_append, List.length_singleton] at hcnt2
      refine append_one tI hk4 (E := iE) (x := key) iLen how2 rfl (iOne key) (by simp [maxLen]; omega) (by omega) ?_
      intro b5 c5 H5 g5 hf5 hfr5 _
      have hr5 : H5 r = some o2 := hf5 r o2 (upd_eq ..) fun a ha e => hbr a ha e.symm
      have hoffU : Off (H.upd r o2) b := fun a ha => by
        rw [Vx.upd_ne _ _ (hbr a ha)]
        have := hoff1 a ha
        rwa [Vx.upd_ne _ _ (hbr a ha)] at this
      have hsU : Sub (H.upd r o2) (H1.upd r o2) := ⟨fun q' o' hq => by
        by_cases e : q' = r
        · subst e; rw [upd_eq] at hq ⊢; exact hq
        · rw [Vx.upd_ne _ _ e] at hq ⊢; exact hs1.le _ _ hq⟩
      have hit5 : It H5 r gb iV sV got (js ++ [j]) := hit2.mono (fun o' ho' => by rw [upd_eq] at ho'; cases ho'; exact hr5) (fun o' ho' => hf5 gb o' ho' fun a ha e => by
        have h9 := hoffU a ha
        obtain ⟨es, c', g1, _⟩ := h4.out
        rw [Vx.upd_ne _ _ (hbr a ha), ← e, g1] at h9; cases h9)
      refine ⟨b5, _, c5, rfl, ⟨js ++ [j], o2, hit5, hr5, hf5.sub hs2 fun a ha => by have := hoffU a ha; rwa [Vx.upd_ne _ _ (hbr a ha)] at this, ?_, hfr5.off hsU hoffU⟩, ?_⟩
      · rw [keysAt_snoc hx]; exact g5
      · obtain ⟨es1, c1, sn1, e1, e2, e3, e4, e5⟩ := hit1.out
        obtain ⟨es2, c2, sn2, f1, f2, f3, f4, f5⟩ := hit5.out
        have hsz : ∀ {G : PHeap} {js : List Nat} {es : Array MapEntry} {sn : Array Nat}, es.toList.map (fun e => (e.key, e.val)) = got.map (fun x => (iV x.1, sV x.2)) → sn.toList = js.filterMap (fun j => (es.toList[j]?).map (·.born)) → (∀ j ∈ js, j < got.length) → sn.size = js.length := by
          intro G js es sn hen hsn hlt
          have hel : es.toList.length = got.length := by have := congrArg List.length hen; simpa using this
          have : sn.toList.length = js.length := by
            rw [hsn]
            clear hsn
            induction js with
            | nil => rfl
            | cons a bs ih =>
              have ha : a < es.toList.length := by rw [hel]; exact hlt a (by simp)
              rw [List.filterMap_cons, List.getElem?_eq_getElem ha]
              simp only [Option.map_some, List.length_cons]
              rw [ih fun j hj => hlt j (by simp [hj])]
          simpa using this
        have s1 := hsz (G := H1) e2 e5 hit1.lt
        have s2 := hsz (G := H5) f2 f5 hit5.lt
        rw [List.length_append, List.length_singleton] at s2
        refine ⟨?_⟩
        simp only [e4, f4]
        omega

/-! ### Bytes -/
/-- A number's bytes. -/
def numN (w : Nat) (n : Int) : List Int := numB w (maxI n 0)
theorem numN_len (w : Nat) (n : Int) : (numN w n).length = w := numB_len _ _
def partB (x : Int × List Int) : List Int := numN 2 x.1 ++ textB x.2
theorem partB_len (x : Int × List Int) : (partB x).length ≤ 258 := by
  have := textB_len x.2
  simp only [partB, List.length_append, numN_len]; omega
theorem flat_le {α : Type} {f : α → List Int} {m : Nat} (hf : ∀ x, (f x).length ≤ m) (l : List α) : (l.flatMap f).length ≤ l.length * m := by
  induction l with
  | nil => simp
  | cons x xs ih => rw [List.flatMap_cons, List.length_append, List.length_cons, Nat.succ_mul]; have := hf x; omega
def knB (kn : Bool) : Int := bif kn then 1 else 0
theorem WrS_more {F H H' : PHeap} {k : Nat} {l : List Int} (h : WrS F H k l) (hs : Sub H H') : WrS (grow F H H') H' k l := by
  obtain ⟨oa, n, c, h1, h2, h3, h4⟩ := h.row
  refine ⟨grow_sub h.sub hs, grow_off h1 h.off, oa, n, c, h1.sub hs, Owns.mono h2 fun _ o _ ho => hs.le _ _ ho, h3, fun a ha => ?_⟩
  subst ha
  obtain ⟨o, ho⟩ := h2.blk
  exact grow_off ho (h4 a rfl)
/-- All that it has as bytes. -/
def headB (kn : Bool) (who : List Int) : List Int := numN 1 (knB kn) ++ numN 1 who.length ++ who.flatMap (numN 2)
def dumpB (kn : Bool) (who : List Int) (C : List (Int × List Int)) : List Int := headB kn who ++ numN 1 C.length ++ C.flatMap partB
theorem headB_len (kn : Bool) (who : List Int) : (headB kn who).length ≤ 2 + 2 * who.length := by
  have := flat_le (f := numN 2) (m := 2) (fun x => by rw [numN_len]; omega) who
  simp only [headB, List.length_append, numN_len]; omega
theorem dumpB_len (kn : Bool) (who : List Int) (C : List (Int × List Int)) : (dumpB kn who C).length ≤ 3 + 2 * who.length + 258 * C.length := by
  have := flat_le partB_len C
  have h := headB_len kn who
  simp only [dumpB, List.length_append, numN_len]; omega
/-- What is there, by these keys. -/
def contAt (got : List (Int × BS)) (K : List Int) : List (Int × List Int) := K.map fun i => (i, ((mlook got i).getD s0).l)
theorem dump_ok {F H : PHeap} {k : Nat} {gm : Option Nat} {kn : Bool} {who : List Int} {got : List (Int × BS)} (h : GaS F H k gm kn who got) (hg : got.length ≤ 100) :
    Triple Try.prog 17 #[.pointer (at0 k)] H fun v H' => ∃ b n c K, v = .slice b n c ∧ GotL got K ∧ RdL H' bE 1 b n (dumpB kn who (contAt got K)) ∧ Sub H H' := by
  refine dump.vc (at0 k) H _ ⟨fun e => by simp [at0] at e, fun _ k2 hk2 => ?_⟩
  have W0 := WrS.new H hk2
  generalize H.upd k2 (.cells #[.slice none 0 0] 55) = H1 at *
  have hwho : who.length ≤ 100 := by obtain ⟨oa, n, c, h1, h2, h3⟩ := h.row; rw [h2.len]; exact h3
  obtain ⟨oa1, n1, c1, g1, _⟩ := (h.mono W0.sub).row
  refine ⟨neP k, neP k, kn, g1.r0, (num_ok (w := 1) W0 (by omega) (by omega) (by simp)).mono ?_⟩
  rintro _ H2 ⟨rfl, W1⟩
  rw [List.nil_append] at W1
  have l1 : (numB 1 (maxI (bif kn then 1 else 0) 0)).length = 1 := numB_len _ _
  obtain ⟨oa2, n2, c2, g2, j2, _⟩ := (h.mono W1.sub).row
  refine ⟨rfl, neP k, neP k, oa2, n2, c2, g2.r1, (num_ok (w := 1) W1 (by omega) (by omega) (by omega)).mono ?_⟩
  rintro _ H3 ⟨rfl, W2⟩
  obtain ⟨oa3, n3, c3, g3, j3, _⟩ := (h.mono W2.sub).row
  have hl2 := j2.len
  have hl3 := j3.len
  have l2 : (numB 1 (maxI (n2 : Int) 0)).length = 1 := numB_len _ _
  refine ⟨rfl, neP k, neP k, oa3, n3, c3, g3.r1, fun t H' => match t with | [.int _ i] => 0 ≤ i ∧ i ≤ n3 ∧ WrS H H' k2 (headB kn (who.take i.toNat) |>.take 1 |> fun _ => numN 1 (knB kn) ++ numN 1 who.length ++ (who.take i.toNat).flatMap (numN 2)) | _ => False,
    fun t _ => match t with | [.int _ i] => (n3 - i).toNat | _ => 0, ⟨by omega, by omega, ?_⟩, ?_⟩
  · simp only [Int.toNat_zero, List.take_zero, List.flatMap_nil, List.append_nil, numN, knB]
    rw [hl2]; exact W2
  rintro i H4 ⟨i0, i1, W3⟩
  obtain ⟨i, rfl⟩ : ∃ j : Nat, i = j := ⟨i.toNat, by omega⟩
  simp only [Int.toNat_natCast] at W3
  have hfl := flat_le (f := numN 2) (m := 2) (fun x => by rw [numN_len]; omega) (who.take i)
  rw [List.length_take] at hfl
  have j3' := (j3.mono h.sub).mono W3.sub
  refine ⟨fun hi => ?_, fun hi => ?_⟩
  · have hi' : i < n3 := by simpa using hi
    obtain ⟨y, hy, hyr⟩ := j3'.ex (i := (i : Int)) (by omega) (by omega)
    rw [Int.toNat_natCast] at hy
    refine ⟨j3'.ob (by omega) (by omega), y, hyr, (num_ok (w := 2) W3 (by omega) (by omega) (by simp only [List.length_append, numN_len]; omega)).mono ?_⟩
    rintro _ H5 ⟨rfl, W4⟩
    rw [wrapS (by omega) (by omega)]
    refine ⟨rfl, ⟨by omega, by omega, ?_⟩, ⟨by simp only; omega⟩⟩
    rw [show ((i : Int) + 1).toNat = i + 1 by omega, List.take_add_one, hy, List.flatMap_append]
    rw [List.append_assoc] at W4
    simpa [numN] using W4
  · have hi' : ¬ i < n3 := by simpa using hi
    rw [List.take_of_length_le (by omega)] at W3
    have W3' : WrS H H4 k2 (headB kn who) := W3
    have hh := headB_len kn who
    have hG := h.mono W3'.sub
    obtain ⟨oa4, n4, c4, g4, _⟩ := hG.row
    -- how many
    have hlen : ∀ {K : Value → PHeap → Prop}, K (.int .i64 got.length) H4 → EvV Try.prog (Builtin.len_ #[25] 3 #[.map gm]) H4 K := by
      intro K hK
      rcases hG.map with ⟨rfl, rfl⟩ | ⟨gb, rfl, h4, _⟩
      · exact map_len_nil mapT hK
      · exact map_len mapT h4 hK
    refine ⟨neP k, neP k, gm, g4.r2, hlen ⟨got.length, rfl, (num_ok (w := 1) W3' (by omega) (by omega) (by omega)).mono ?_⟩⟩
    rintro _ H5 ⟨rfl, W5⟩
    refine ⟨rfl, (nodes_ok (h.mono W5.sub) (by omega)).mono ?_⟩
    rintro _ H6 ⟨b, q, c, K, rfl, hK, hKr, hs6, hoff6⟩
    have W6 := WrS_more W5 hs6
    have hHF : Sub H (grow H H5 H6) := grow_le W5.sub
    have hKF : RdL (grow H H5 H6) iE 1 b q K := (grow_own hKr hoff6).rd (E := iE) (sz := 1) (by omega) iLen
    generalize grow H H5 H6 = F6 at *
    have hKl : K.length = got.length := by rw [hK.perm.length_eq, List.length_map]
    have hKq := hKF.len
    refine ⟨b, q, c, rfl, fun t H' => match t with | [.int _ i] => 0 ≤ i ∧ i ≤ q ∧ WrS F6 H' k2 (headB kn who ++ numN 1 got.length ++ (contAt got (K.take i.toNat)).flatMap partB) | _ => False,
      fun t _ => match t with | [.int _ i] => (q - i).toNat | _ => 0, ⟨by omega, by omega, ?_⟩, ?_⟩
    · simp only [Int.toNat_zero, List.take_zero, contAt, List.map_nil, List.flatMap_nil, List.append_nil]
      exact W6
    rintro i H7 ⟨i0, i1, W7⟩
    obtain ⟨i, rfl⟩ : ∃ j : Nat, i = j := ⟨i.toNat, by omega⟩
    simp only [Int.toNat_natCast] at W7
    have hKr7 := hKF.mono W7.sub
    have hfp := flat_le partB_len (contAt got (K.take i))
    have hcl : (contAt got (K.take i)).length ≤ i := by simp only [contAt, List.length_map, List.length_take]; omega
    refine ⟨fun hi => ?_, fun hi => ?_⟩
    · have hi' : i < q := by simpa using hi
      obtain ⟨y, hy, hyr⟩ := hKr7.ex (i := (i : Int)) (by omega) (by omega)
      rw [Int.toNat_natCast] at hy
      have hlen7 : (headB kn who ++ numN 1 got.length ++ (contAt got (K.take i)).flatMap partB).length ≤ 300 + 258 * i := by
        simp only [List.length_append, numN_len]; omega
      refine ⟨hKr7.ob (by omega) (by omega), y, hyr, (num_ok (w := 2) W7 (by omega) (by omega) (by omega)).mono ?_⟩
      rintro _ H8 ⟨rfl, W8⟩
      have hG8 := h.mono (hHF.trans W8.sub)
      obtain ⟨oa5, n5, c5, g5, _⟩ := hG8.row
      refine ⟨rfl, neP k, neP k, gm, g5.r2, look_ok hG8 (Sub.refl _) ?_⟩
      rw [if_neg (by simp)]
      -- the text
      have hym : y ∈ got.map (·.1) := hK.perm.mem_iff.1 (List.mem_of_getElem? hy)
      obtain ⟨x, hx, hxy⟩ := List.mem_map.1 hym
      have hls : (mlook got y).isSome = true := by
        cases hh : mlook got y with
        | none => exact absurd hxy (mlook_none.1 hh x hx)
        | some s => rfl
      obtain ⟨s, hs⟩ := Option.isSome_iff_exists.1 hls
      have hokF := (h.ok _ (mlook_mem hs)).mono (h.sub.trans hHF)
      rw [hs]
      simp only [Option.getD_some]
      refine ⟨_, _, _, rfl, (wText_ok W8 (hokF.rd.mono W8.sub) hokF.rd hokF.cap (by rw [List.length_append, numB_len]; omega)).mono ?_⟩
      rintro _ H9 ⟨rfl, W9⟩
      rw [wrapS (by omega) (by omega)]
      refine ⟨rfl, ⟨by omega, by omega, ?_⟩, ⟨by omega⟩⟩
      rw [show ((i : Int) + 1).toNat = i + 1 by omega, List.take_add_one, hy]
      have e : (contAt got (K.take i ++ (some y).toList)).flatMap partB = (contAt got (K.take i)).flatMap partB ++ (numN 2 y ++ textB s.l) := by
        simp [contAt, partB, hs]
      rw [e]
      rw [List.append_assoc, List.append_assoc] at W9
      simpa [numN] using W9
    · have hi' : ¬ i < q := by simpa using hi
      rw [List.take_of_length_le (by omega)] at W7
      have hcl2 : (contAt got K).length = got.length := by simp only [contAt, List.length_map, hKl]
      have hfp2 := flat_le partB_len (contAt got K)
      have W7' : WrS F6 H7 k2 (dumpB kn who (contAt got K)) := by
        unfold dumpB; rw [hcl2]; exact W7
      have hdl := dumpB_len kn who (contAt got K)
      refine (bytes_ok W7' (by omega)).mono ?_
      rintro _ H8 ⟨b8, n8, c8, rfl, g8, s8, _⟩
      exact ⟨b8, n8, c8, rfl, b8, n8, c8, K, rfl, hK, g8.rd (E := bE) (sz := 1) (by omega) bLen, (hHF.trans W7.sub).trans s8⟩
theorem dump_nil (H : PHeap) : Triple Try.prog 17 #[.pointer none] H fun v H' => v = .slice none 0 0 ∧ H' = H :=
  dump.vc none H _ ⟨fun _ => ⟨rfl, rfl⟩, fun e => by simp at e⟩
end Go.Gat
