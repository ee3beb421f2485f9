/- The contracts of the reference's round, and what the two have in common. -/
import Derived.Test.YthcfmcmmmpfjoaaRndD
namespace Go.Rnd
open Go.Vx Go.Vc Go.Proofs

theorem fldM {H : PHeap} {oa : Option Addr} {x : Msg} (h : Reads H oa (mE x)) {j : Nat} {v : Value} (hv : (mE x)[j]? = some v) : Reads H (fldA oa j) [v] := h.fld j fun i u hu => by
  match i, hu with
  | 0, hu => simp at hu; subst hu; exact hv
  | i + 1, hu => simp at hu
abbrev froms (G : List Msg) : List Int := G.map from_
/-- An answer is put in where it belongs. -/
def insG (G : List Msg) (m : Msg) : List Msg := G.takeWhile (fun x => decide (from_ x < from_ m)) ++ m :: G.dropWhile (fun x => decide (from_ x < from_ m))
theorem mem_ins {G : List Msg} {m x : Msg} : x ∈ insG G m ↔ x ∈ G ∨ x = m := by
  have : x ∈ G ↔ x ∈ G.takeWhile (fun x => decide (from_ x < from_ m)) ∨ x ∈ G.dropWhile (fun x => decide (from_ x < from_ m)) := by
    conv => lhs; rw [← List.takeWhile_append_dropWhile (p := fun x => decide (from_ x < from_ m)) (l := G)]
    rw [List.mem_append]
  rw [this]
  unfold insG
  simp only [List.mem_append, List.mem_cons]
  constructor
  · rintro (h | rfl | h)
    · exact .inl (.inl h)
    · exact .inr rfl
    · exact .inl (.inr h)
  · rintro ((h | h) | rfl)
    · exact .inl h
    · exact .inr (.inr h)
    · exact .inr (.inl rfl)
theorem ins_len (G : List Msg) (m : Msg) : (insG G m).length = G.length + 1 := by
  have := congrArg List.length (List.takeWhile_append_dropWhile (p := fun x => decide (from_ x < from_ m)) (l := G))
  unfold insG
  simp only [List.length_append, List.length_cons] at *
  omega
theorem ins_perm (G : List Msg) (m : Msg) : (insG G m).Perm (G ++ [m]) := by
  unfold insG
  refine List.perm_middle.trans ?_
  rw [List.takeWhile_append_dropWhile]
  exact (List.perm_append_singleton m G).symm
def AscG (G : List Msg) : Prop := (froms G).Pairwise (· < ·)
theorem twG {G : List Msg} {k : Int} {x : Msg} (h : x ∈ G.takeWhile (fun x => decide (from_ x < k))) : from_ x < k := by
  induction G with
  | nil => cases h
  | cons y ys ih =>
    rw [List.takeWhile_cons] at h
    split at h
    · rename_i hy
      rcases List.mem_cons.1 h with rfl | h
      · simpa using hy
      · exact ih h
    · cases h
theorem dwG {G : List Msg} {k : Int} {x : Msg} (ha : AscG G) (h : x ∈ G.dropWhile (fun x => decide (from_ x < k))) : k ≤ from_ x := by
  induction G with
  | nil => cases h
  | cons y ys ih =>
    have ha' : (∀ a ∈ froms ys, from_ y < a) ∧ AscG ys := by simpa [AscG, froms] using ha
    rw [List.dropWhile_cons] at h
    split at h
    · exact ih ha'.2 h
    · rename_i hy
      have hy' : k ≤ from_ y := by simpa using hy
      rcases List.mem_cons.1 h with rfl | h
      · exact hy'
      · have := ha'.1 (from_ x) (List.mem_map.2 ⟨x, h, rfl⟩); omega
theorem ins_asc {G : List Msg} {m : Msg} (h : AscG G) (hm : from_ m ∉ froms G) : AscG (insG G m) := by
  have h' := h
  unfold AscG froms at h'
  rw [← List.takeWhile_append_dropWhile (p := fun x => decide (from_ x < from_ m)) (l := G), List.map_append, List.pairwise_append] at h'
  unfold AscG froms insG
  rw [List.map_append, List.map_cons]
  refine List.pairwise_append.2 ⟨h'.1, List.pairwise_cons.2 ⟨fun y hy => ?_, h'.2.1⟩, fun a ha b hb => ?_⟩
  · obtain ⟨x, hx, rfl⟩ := List.mem_map.1 hy
    have h1 := dwG h hx
    have h2 : x ∈ G := (List.dropWhile_sublist (p := fun x => decide (from_ x < from_ m))).subset hx
    have : from_ m ≠ from_ x := fun e => hm (List.mem_map.2 ⟨x, h2, e.symm⟩)
    omega
  · obtain ⟨x, hx, rfl⟩ := List.mem_map.1 ha
    rcases List.mem_cons.1 hb with rfl | hb
    · exact twG hx
    · exact h'.2.2 _ ha b hb
/-- The answers in a map, and the same ones in a list. -/
structure Both (got : List (Int × Msg)) (G : List Msg) : Prop where
  asc : AscG G
  keys : (got.map (·.1)).Perm (froms G)
  look : ∀ m ∈ G, mlook got (from_ m) = some m
  none_ : ∀ i, i ∉ froms G → mlook got i = none
theorem Both.nil : Both [] [] := ⟨List.Pairwise.nil, List.Perm.refl _, fun _ h => (by cases h), fun _ _ => rfl⟩
theorem Both.some {got : List (Int × Msg)} {G : List Msg} (h : Both got G) (i : Int) : (mlook got i).isSome = decide (i ∈ froms G) := by
  by_cases hi : i ∈ froms G
  · obtain ⟨m, hm, rfl⟩ := List.mem_map.1 hi
    rw [h.look m hm, decide_eq_true hi]; rfl
  · rw [h.none_ i hi, decide_eq_false hi]; rfl
theorem mlook_app (got : List (Int × Msg)) (k : Int) (m : Msg) (i : Int) : mlook (got ++ [(k, m)]) i = (mlook got i).or (if k = i then some m else none) := by
  unfold mlook
  rw [List.find?_append]
  cases hx : List.find? (fun p => decide (p.1 = i)) got with
  | some p => simp
  | none =>
    simp only [Option.none_or, Option.map_none]
    by_cases e : k = i
    · simp [e]
    · simp [e]
theorem Both.put {got : List (Int × Msg)} {G : List Msg} (h : Both got G) {m : Msg} (hm : from_ m ∉ froms G) : Both (got ++ [(from_ m, m)]) (insG G m) := by
  refine ⟨ins_asc h.asc hm, ?_, fun x hx => ?_, fun i hi => ?_⟩
  · rw [List.map_append]
    refine (List.Perm.append_right _ h.keys).trans ?_
    have := (ins_perm G m).map from_
    rw [List.map_append] at this
    exact this.symm
  · rw [mlook_app]
    rcases mem_ins.1 hx with hx | rfl
    · rw [h.look x hx]; rfl
    · rw [h.none_ _ hm]; simp
  · have hi' : i ∉ froms G ∧ from_ m ≠ i := ⟨fun h1 => by
      obtain ⟨x, hx, e⟩ := List.mem_map.1 h1
      exact hi (List.mem_map.2 ⟨x, mem_ins.2 (.inl hx), e⟩), fun e => hi (List.mem_map.2 ⟨m, mem_ins.2 (.inr rfl), e⟩)⟩
    rw [mlook_app, h.none_ i hi'.1, if_neg hi'.2]; rfl
theorem asc_extI : ∀ {l m : List Int}, l.Pairwise (· < ·) → m.Pairwise (· < ·) → l.Perm m → l = m := fun h1 h2 hp =>
  hp.eq_of_pairwise (le := (· < ·)) (fun a b _ _ h h' => by omega) h1 h2
theorem Both.got {got : List (Int × Msg)} {G : List Msg} (h : Both got G) {K : List Int} (hK : GotL got K) : K.map (fun i => (mlook got i).getD z0) = G := by
  have hp : K.Perm (froms G) := hK.perm.trans h.keys
  have hnd : K.Nodup := hp.nodup_iff.2 (h.asc.imp fun h => by omega)
  have hlt : K.Pairwise (· < ·) := List.Pairwise.imp₂ (fun a b h1 h2 => by
    have : a ≠ b := h2
    omega) hK.rise hnd
  have := asc_extI hlt h.asc hp
  rw [this, List.map_map]
  conv => rhs; rw [← List.map_id G]
  refine List.map_congr_left fun m hm => ?_
  simp [h.look m hm]
/-! ### The reference -/
/-- The reference's round: a value of slices. -/
structure RV where
  a : Option Addr
  an : Nat
  ac : Nat
  w : Option Addr
  wn : Nat
  wc : Nat
  g : Option Addr
  gn : Nat
  gc : Nat
abbrev RV.v (r : RV) (tries : Int) : Value := .agg #[.slice r.a r.an r.ac, .slice r.w r.wn r.wc, .slice r.g r.gn r.gc, .int .i64 tries]
structure RdR (H : PHeap) (r : RV) (asks : List Msg) (wait : List Int) (G : List Msg) : Prop where
  asks : RdL H mE 13 r.a r.an asks
  wait : RdL H iE 1 r.w r.wn wait
  got : RdL H mE 13 r.g r.gn G
  cap : r.gn ≤ r.gc
theorem RdR.mono {H H' : PHeap} {r : RV} {asks : List Msg} {wait : List Int} {G : List Msg} (h : RdR H r asks wait G) (hs : Sub H H') : RdR H' r asks wait G := ⟨h.asks.mono hs, h.wait.mono hs, h.got.mono hs, h.cap⟩
theorem refNew_ok (H : PHeap) (tries : Int) (oa ob : Option Addr) (n c m d : Nat) : Triple Try.prog 53 #[.int .i64 tries, .slice oa n c, .slice ob m d] H fun v H' => v = (⟨oa, n, c, ob, m, d, none, 0, 0⟩ : RV).v (maxI tries 0) ∧ H' = H := by
  refine refNew.vc tries oa n c ob m d H _ ⟨?_, rfl⟩
  have : (bif decide (tries < 0) then 0 else tries) = maxI tries 0 := by
    unfold maxI
    by_cases h : tries < 0
    · simp [h]
    · first | (simp [h]; done) | (simp [h]; omega)
  rw [this]
theorem has_ok {H : PHeap} {r : RV} {tries : Int} {G : List Msg} {i : Int} (hg : RdL H mE 13 r.g r.gn G) (hn : r.gn ≤ 100000) :
    Triple Try.prog 59 #[r.v tries, .int .i64 i] H fun v H' => v = .bool (decide (i ∈ froms G)) ∧ H' = H := by
  have hll := hg.len
  refine refHas.vc r.a r.an r.ac r.w r.wn r.wc r.g r.gn r.gc tries i H _ ⟨fun t H' => match t with | [.int _ k] => 0 ≤ k ∧ k ≤ r.gn ∧ H' = H ∧ i ∉ froms (G.take k.toNat) | _ => False, fun t _ => match t with | [.int _ k] => (r.gn - k).toNat | _ => 0, ⟨by omega, by omega, rfl, by simp⟩, ?_⟩
  rintro k H1 ⟨k0, k1, hH, hno⟩
  obtain rfl := hH.symm
  obtain ⟨k, rfl⟩ : ∃ j : Nat, k = j := ⟨k.toNat, by omega⟩
  rw [Int.toNat_natCast] at hno
  refine ⟨fun hk => ?_, fun hk => ?_⟩
  · have hk' : k < r.gn := by simpa using hk
    obtain ⟨x, hx, hxr⟩ := hg.ex (i := (k : Int)) (by omega) (by omega)
    rw [Int.toNat_natCast] at hx
    refine ⟨hg.ob (by omega) (by omega), ⟨hg.elem_ne (by omega) (by omega)⟩, from_ x, fldM (j := 1) hxr rfl, fun e => ⟨?_, rfl⟩, fun e => ?_⟩
    · have : from_ x = i := by simpa using e
      rw [decide_eq_true (List.mem_map.2 ⟨x, List.mem_of_getElem? hx, this⟩)]
    · have hne : from_ x ≠ i := by simpa using e
      rw [wrapS (by omega) (by omega)]
      refine ⟨⟨by omega, by omega, rfl, ?_⟩, ⟨by simp only; omega⟩⟩
      rw [show ((k : Int) + 1).toNat = k + 1 by omega, List.take_add_one, hx, show ∀ a b, froms (a ++ b) = froms a ++ froms b from fun _ _ => List.map_append, List.mem_append, not_or]
      exact ⟨hno, by simpa using fun e => hne e.symm⟩
  · have hk' : ¬ k < r.gn := by simpa using hk
    rw [List.take_of_length_le (by omega)] at hno
    exact ⟨by rw [decide_eq_false hno], rfl⟩
theorem refAll_ok {H : PHeap} {r : RV} {tries : Int} {asks : List Msg} {wait : List Int} {G : List Msg} (h : RdR H r asks wait G) (hn : r.gn ≤ 100000) (hw : r.wn ≤ 100000) :
    Triple Try.prog 36 #[r.v tries] H fun v H' => v = .bool (wait.all fun i => decide (i ∈ froms G)) ∧ H' = H := by
  have hwl := h.wait.len
  refine refAll.vc r.a r.an r.ac r.w r.wn r.wc r.g r.gn r.gc tries H _ ⟨fun t H' => match t with | [.int _ k] => 0 ≤ k ∧ k ≤ r.wn ∧ H' = H ∧ ∀ i ∈ wait.take k.toNat, i ∈ froms G | _ => False, fun t _ => match t with | [.int _ k] => (r.wn - k).toNat | _ => 0, ⟨by omega, by omega, rfl, by simp⟩, ?_⟩
  rintro k H1 ⟨k0, k1, hH, hall⟩
  obtain rfl := hH.symm
  obtain ⟨k, rfl⟩ : ∃ j : Nat, k = j := ⟨k.toNat, by omega⟩
  rw [Int.toNat_natCast] at hall
  refine ⟨fun hk => ?_, fun hk => ?_⟩
  · have hk' : k < r.wn := by simpa using hk
    obtain ⟨x, hx, hxr⟩ := h.wait.ex (i := (k : Int)) (by omega) (by omega)
    rw [Int.toNat_natCast] at hx
    refine ⟨H, Sub.refl _, h.wait.ob (by omega) (by omega), x, hxr, (has_ok (r := r) h.got hn).mono ?_⟩
    rintro _ H2 ⟨rfl, hH⟩
    obtain rfl := hH.symm
    refine ⟨_, rfl, fun e => ⟨?_, rfl⟩, fun e => ?_⟩
    · have hne : x ∉ froms G := by simpa using e
      have : (wait.all fun i => decide (i ∈ froms G)) = false := by
        rw [List.all_eq_false]
        exact ⟨x, List.mem_of_getElem? hx, by simpa using hne⟩
      rw [this]
    · have hin : x ∈ froms G := by simpa using e
      rw [wrapS (by omega) (by omega)]
      refine ⟨⟨by omega, by omega, rfl, fun i hi => ?_⟩, ⟨by simp only; omega⟩⟩
      rw [show ((k : Int) + 1).toNat = k + 1 by omega, List.take_add_one, hx] at hi
      rcases List.mem_append.1 hi with hi | hi
      · exact hall i hi
      · simp at hi; subst hi; exact hin
  · have hk' : ¬ k < r.wn := by simpa using hk
    rw [List.take_of_length_le (by omega)] at hall
    have : (wait.all fun i => decide (i ∈ froms G)) = true := by
      rw [List.all_eq_true]; exact fun i hi => decide_eq_true (hall i hi)
    exact ⟨by rw [this], rfl⟩
/-- Does an answer count? -/
def takesG (wait : List Int) (G : List Msg) (m : Msg) : Bool := decide (from_ m ∈ wait) && !decide (from_ m ∈ froms G)
theorem twG_len {G : List Msg} {k : Int} {i : Nat} (h1 : ∀ j x, j < i → G[j]? = some x → from_ x < k) (h2 : i ≤ G.length) (h3 : ∀ x, G[i]? = some x → ¬ from_ x < k) :
    G.takeWhile (fun x => decide (from_ x < k)) = G.take i ∧ G.dropWhile (fun x => decide (from_ x < k)) = G.drop i := by
  induction G generalizing i with
  | nil => simp
  | cons y ys ih =>
    cases i with
    | zero =>
      have := h3 y rfl
      have : decide (from_ y < k) = false := decide_eq_false this
      simp [List.takeWhile_cons, List.dropWhile_cons, this]
    | succ i =>
      have hy : decide (from_ y < k) = true := decide_eq_true (h1 0 y (by omega) rfl)
      obtain ⟨g1, g2⟩ := ih (i := i) (fun j z hj hz => h1 (j + 1) z (by omega) (by simpa using hz)) (by simpa using h2) (fun z hz => h3 z (by simpa using hz))
      simp [List.takeWhile_cons, List.dropWhile_cons, hy, g1, g2]
theorem refTake_ok {H : PHeap} {r : RV} {tries : Int} {asks : List Msg} {wait : List Int} {G : List Msg} {m : Msg} (h : RdR H r asks wait G) (hn : r.gn ≤ 100000) (hw : r.wn ≤ 100000) :
    Triple Try.prog 35 #[r.v tries, vM m] H fun v H' => ∃ r' : RV, v = .tuple #[r'.v tries, .bool (takesG wait G m)] ∧ RdR H' r' asks wait (if takesG wait G m then insG G m else G) ∧ r'.gn = r.gn + (if takesG wait G m then 1 else 0) ∧ r'.wn = r.wn ∧ r'.an = r.an ∧ Sub H H' := by
  have hwl := h.wait.len
  have hgl := h.got.len
  obtain ⟨y1, y2, y3, y4, y5, y6, y7, y8, y9, y10, ⟨ya, yb, yc, yl⟩, ⟨za, zb, zc, zl⟩, ⟨wa, wb, wc, wl⟩⟩ := m
  generalize hm : ((y1, y2, y3, y4, y5, y6, y7, y8, y9, y10, ⟨ya, yb, yc, yl⟩, ⟨za, zb, zc, zl⟩, ⟨wa, wb, wc, wl⟩) : Msg) = m
  have hf : from_ m = y2 := by rw [← hm]
  have no : takesG wait G m = false → ∃ r' : RV, Value.tuple #[r.v tries, .bool false] = .tuple #[r'.v tries, .bool (takesG wait G m)] ∧ RdR H r' asks wait (if takesG wait G m then insG G m else G) ∧ r'.gn = r.gn + (if takesG wait G m then 1 else 0) ∧ r'.wn = r.wn ∧ r'.an = r.an ∧ Sub H H := by
    intro e; rw [e]; exact ⟨r, rfl, h, by simp, rfl, rfl, Sub.refl _⟩
  have hv : vM m = .agg #[.int .i64 y1, .int .i64 y2, .int .i64 y3, .int .i64 y4, .string y5, .int .i64 y6, .int .i64 y7, .int .i64 y8, .int .i64 y9, .int .i64 y10, .slice ya yb yc, .slice za zb zc, .slice wa wb wc] := by rw [← hm]; rfl
  rw [hv]
  refine refTake.vc r.a r.an r.ac r.w r.wn r.wc r.g r.gn r.gc tries y1 y2 y3 y4 y5 y6 y7 y8 y9 y10 ya yb yc za zb zc wa wb wc H _
    ⟨fun t H' => match t with | [.bool b, .int _ k] => 0 ≤ k ∧ k ≤ r.wn ∧ H' = H ∧ b = decide (y2 ∈ wait.take k.toNat) | _ => False, fun t _ => match t with | [_, .int _ k] => (r.wn - k).toNat | _ => 0, ⟨by omega, by omega, rfl, by simp⟩, ?_⟩
  rintro b k H1 ⟨k0, k1, hH, rfl⟩
  obtain rfl := hH.symm
  obtain ⟨k, rfl⟩ : ∃ j : Nat, k = j := ⟨k.toNat, by omega⟩
  rw [Int.toNat_natCast]
  refine ⟨fun hk => ⟨H, Sub.refl _, ?_⟩, fun hk => ?_⟩
  · have hk' : k < r.wn := by simpa using hk
    obtain ⟨x, hx, hxr⟩ := h.wait.ex (i := (k : Int)) (by omega) (by omega)
    rw [Int.toNat_natCast] at hx
    rw [wrapS (by omega) (by omega)]
    have htk : wait.take (k + 1) = wait.take k ++ [x] := by rw [List.take_add_one, hx]; rfl
    refine ⟨fun e => ⟨h.wait.ob (by omega) (by omega), x, hxr, ⟨by omega, by omega, rfl, ?_⟩, ⟨by simp only; omega⟩⟩, fun e => ⟨⟨by omega, by omega, rfl, ?_⟩, ⟨by simp only; omega⟩⟩⟩
    · have hno : y2 ∉ wait.take k := by simpa using e
      rw [show ((k : Int) + 1).toNat = k + 1 by omega, htk, Bool.eq_iff_iff, beq_iff_eq, decide_eq_true_eq, List.mem_append, List.mem_singleton]
      exact ⟨fun e => .inr e.symm, fun e => e.elim (fun h => absurd h hno) fun h => h.symm⟩
    · have hin : y2 ∈ wait.take k := by simpa using e
      rw [show ((k : Int) + 1).toNat = k + 1 by omega, htk]
      simp [hin]
  · have hk' : ¬ k < r.wn := by simpa using hk
    rw [List.take_of_length_le (by omega)]
    refine ⟨fun e => ?_, fun e => no ?_⟩
    · have hin : y2 ∈ wait := by simpa using e
      refine (has_ok (r := r) h.got hn).mono ?_
      rintro _ H38 ⟨rfl, hH⟩
      obtain rfl := hH.symm
      refine ⟨_, rfl, fun e => no ?_, fun e => ?_⟩
      · have : y2 ∈ froms G := by simpa using e
        unfold takesG; rw [hf]; simp [this]
      · have hnG : y2 ∉ froms G := by simpa using e
        have htk : takesG wait G m = true := by unfold takesG; rw [hf]; simp [hin, hnG]
        refine ⟨fun t H' => match t with | [.int _ j] => 0 ≤ j ∧ j ≤ r.gn ∧ H' = H ∧ ∀ z x, z < j.toNat → G[z]? = some x → from_ x < from_ m | _ => False, fun t _ => match t with | [.int _ j] => (r.gn - j).toNat | _ => 0, ⟨by omega, by omega, rfl, fun z x hz => by simp at hz⟩, ?_⟩
        rintro j H43 ⟨j0, j1, hH, hlt⟩
        obtain rfl := hH.symm
        obtain ⟨j, rfl⟩ : ∃ z : Nat, j = z := ⟨j.toNat, by omega⟩
        rw [Int.toNat_natCast] at hlt
        have fin : (∀ x, G[j]? = some x → ¬ from_ x < from_ m) → ∀ b m' k' H', RdL H' mE 13 b m' (G.take j ++ m :: G.drop j) → m' ≤ k' → Sub H H' →
            ∃ r' : RV, Value.tuple #[.agg #[.slice r.a r.an r.ac, .slice r.w r.wn r.wc, .slice b m' k', .int .i64 tries], .bool true] = .tuple #[r'.v tries, .bool (takesG wait G m)] ∧ RdR H' r' asks wait (if takesG wait G m then insG G m else G) ∧ r'.gn = r.gn + (if takesG wait G m then 1 else 0) ∧ r'.wn = r.wn ∧ r'.an = r.an ∧ Sub H H' := by
          intro hst b m' k' H' g1 g2 g3
          obtain ⟨t1, t2⟩ := twG_len hlt (by omega) hst
          have hins : insG G m = G.take j ++ m :: G.drop j := by unfold insG; rw [t1, t2]
          have hml := g1.len
          rw [htk, if_pos rfl, if_pos rfl, hins]
          refine ⟨⟨r.a, r.an, r.ac, r.w, r.wn, r.wc, b, m', k'⟩, rfl, ⟨h.asks.mono g3, h.wait.mono g3, g1, g2⟩, ?_, rfl, rfl, g3⟩
          simp only [List.length_append, List.length_cons, List.length_take, List.length_drop] at hml
          show m' = r.gn + 1
          omega
        have hca : (#[.int .i64 y1, .int .i64 y2, .int .i64 y3, .int .i64 y4, .string y5, .int .i64 y6, .int .i64 y7, .int .i64 y8, .int .i64 y9, .int .i64 y10, .slice ya yb yc, .slice za zb zc, .slice wa wb wc] : Array Value).toList = mE m := by rw [← hm]; rfl
        refine ⟨H, Sub.refl _, fun hj => ?_, fun hj => ?_⟩
        · have hj' : j < r.gn := by simpa using hj
          obtain ⟨x, hx, hxr⟩ := h.got.ex (i := (j : Int)) (by omega) (by omega)
          rw [Int.toNat_natCast] at hx
          refine ⟨h.got.ob (by omega) (by omega), ⟨h.got.elem_ne (by omega) (by omega)⟩, from_ x, fldM (j := 1) hxr rfl, fun e => ?_, fun e => ?_⟩
          · have hxm : from_ x < from_ m := by rw [hf]; simpa using e
            rw [wrapS (by omega) (by omega)]
            refine ⟨⟨by omega, by omega, rfl, fun z u hz hu => ?_⟩, ⟨by simp only; omega⟩⟩
            by_cases ez : z = j
            · subst ez; rw [hx] at hu; cases hu; exact hxm
            · exact hlt z u (by omega) hu
          · have hxm : ¬ from_ x < from_ m := by rw [hf]; simpa using e
            exact ins_tail tM mLen mOne hca h.got (by omega) h.cap (by omega) (by omega) (fin fun u hu => by rw [hx] at hu; cases hu; exact hxm)
        · have hj' : ¬ j < r.gn := by simpa using hj
          exact ins_tail tM mLen mOne hca h.got (by omega) h.cap (by omega) (by omega) (fin fun u hu => by have := (List.getElem?_eq_some_iff.1 hu).1; omega)
    · have : y2 ∉ wait := by simpa using e
      unfold takesG; rw [hf]; simp [this]
def againG (asks G : List Msg) : List Msg := asks.filter fun x => !decide (to_ x ∈ froms G)
theorem refTick_ok {H : PHeap} {r : RV} {tries : Int} {asks : List Msg} {wait : List Int} {G : List Msg} (h : RdR H r asks wait G) (hn : r.gn ≤ 100000) (ha : r.an ≤ 100000) :
    Triple Try.prog 33 #[r.v tries] H fun v H' =>
      (tries = 0 ∧ v = .tuple #[r.v tries, .slice none 0 0, .bool true] ∧ H' = H) ∨
      (tries ≠ 0 ∧ Sub H H' ∧ ∃ b m c, v = .tuple #[r.v (IntKind.i64.wrap (tries - 1)), .slice b m c, .bool false] ∧ RdL H' mE 13 b m (againG asks G)) := by
  have hal := h.asks.len
  refine refTick.vc r.a r.an r.ac r.w r.wn r.wc r.g r.gn r.gc tries H _ ⟨fun e => .inl ⟨by simpa using e, rfl, rfl⟩, fun e => ?_⟩
  have ht : tries ≠ 0 := by simpa using e
  refine ⟨fun t H' => match t with | [.slice b m c, .int _ i] => 0 ≤ i ∧ i ≤ r.an ∧ ∃ o, Sub H H' ∧ OwnL H' 32 mE 13 b m c o ∧ Off H b ∧ o = (asks.take i.toNat).filter (fun x => !decide (to_ x ∈ froms G)) | _ => False, fun t _ => match t with | [_, .int _ i] => (r.an - i).toNat | _ => 0,
    ⟨by omega, by omega, [], Sub.refl _, Owns.nil _ _ 13, Off.none _, by simp⟩, ?_⟩
  rintro b m c i H17 ⟨i0, i1, o, hs, ho, hoff, hoe⟩
  obtain ⟨i, rfl⟩ : ∃ j : Nat, i = j := ⟨i.toNat, by omega⟩
  rw [Int.toNat_natCast] at hoe
  refine ⟨fun hi => ⟨H17, Sub.refl _, ?_⟩, fun hi => ?_⟩
  · have hi' : i < r.an := by simpa using hi
    have h17 := h.asks.mono hs
    obtain ⟨x, hx, hxr⟩ := h17.ex (i := (i : Int)) (by omega) (by omega)
    rw [Int.toNat_natCast] at hx
    have hf2 := fldM (j := 2) hxr rfl
    have hol := (ho.rd (E := mE) (sz := 13) (by omega) mLen).len
    have hfl := List.length_filter_le (fun x => !decide (to_ x ∈ froms G)) (asks.take i)
    rw [List.length_take, ← hoe] at hfl
    have htk : (asks.take (i + 1)).filter (fun x => !decide (to_ x ∈ froms G)) = o ++ if to_ x ∈ froms G then [] else [x] := by
      rw [List.take_add_one, hx, List.filter_append, ← hoe]
      congr 1
      by_cases hh : to_ x ∈ froms G <;> simp [hh]
    refine ⟨h17.ob (by omega) (by omega), ⟨h17.elem_ne (by omega) (by omega)⟩, to_ x, hf2, (has_ok (r := r) (h.got.mono hs) hn).mono ?_⟩
    rintro _ H21 ⟨rfl, hH⟩
    obtain rfl := hH.symm
    rw [wrapS (by omega) (by omega)]
    refine ⟨_, rfl, fun e => ?_, fun e => ?_⟩
    · have hno : to_ x ∉ froms G := by simpa using e
      rw [if_neg hno] at htk
      have hone : ∀ k42 : Nat, H17 k42 = none → EvV Try.prog (Builtin.append_ #[24, 24] 24 #[.slice b m c, .slice (at0 k42) 1 1]) (H17.upd k42 (.cells (mE x).toArray 32)) fun v43 H44 => ∃ a45 k46 k47, v43 = Value.slice a45 k46 k47 ∧
          ((0 ≤ (i : Int) + 1 ∧ (i : Int) + 1 ≤ r.an ∧ ∃ o, Sub H H44 ∧ OwnL H44 32 mE 13 a45 k46 k47 o ∧ Off H a45 ∧ o = (asks.take ((i : Int) + 1).toNat).filter (fun x => !decide (to_ x ∈ froms G))) ∧ Less ((r.an - ((i : Int) + 1)).toNat) ((r.an - (i : Int)).toNat)) := by
        intro k42 hk42
        refine append_one tM (E := mE) (l := o) (x := x) hk42 mLen ho rfl (mOne x) (by simp [maxLen]; omega) (by omega) ?_
        intro b' c' H' how hf hfr _
        exact ⟨b', m + 1, c', rfl, ⟨by omega, by omega, o ++ [x], hf.sub hs hoff, how, hfr.off hs hoff, by rw [show ((i : Int) + 1).toNat = i + 1 by omega, htk]⟩, ⟨by omega⟩⟩
      obtain ⟨y1, y2, y3, y4, y5, y6, y7, y8, y9, y10, ⟨ya, yb, yc, yl⟩, ⟨za, zb, zc, zl⟩, ⟨wa, wb, wc, wl⟩⟩ := x
      exact ⟨h17.ob (by omega) (by omega), y1, y2, y3, y4, y5, y6, y7, y8, y9, y10, ya, yb, yc, za, zb, zc, wa, wb, wc, hxr, hone⟩
    · have hin : to_ x ∈ froms G := by simpa using e
      rw [if_pos hin, List.append_nil] at htk
      exact ⟨⟨by omega, by omega, o, hs, ho, hoff, by rw [show ((i : Int) + 1).toNat = i + 1 by omega, htk]⟩, ⟨by simp only; omega⟩⟩
  · have hi' : ¬ i < r.an := by simpa using hi
    rw [List.take_of_length_le (by omega)] at hoe
    subst hoe
    exact .inr ⟨ht, hs, b, m, c, rfl, ho.rd (E := mE) (sz := 13) (by omega) mLen⟩
/-! ### The same messages -/
theorem sameAll_ok {H : PHeap} {oa ob : Option Addr} {n c d : Nat} {l : List Msg} (h1 : RdL H mE 13 oa n l) (h2 : RdL H mE 13 ob n l) (hok : ∀ m ∈ l, OkM H m) (hn : n ≤ 100000) :
    Triple Try.prog 14 #[.slice oa n c, .slice ob n d] H fun v H' => v = .bool true ∧ Sub H H' := by
  have hll := h1.len
  refine sameAll.vc oa n c ob n d H _ ⟨fun h => by simp at h, fun _ => ⟨fun t H' => match t with | [.int _ i] => 0 ≤ i ∧ i ≤ n ∧ Sub H H' | _ => False, fun t _ => match t with | [.int _ i] => (n - i).toNat | _ => 0, ⟨by omega, by omega, Sub.refl _⟩, ?_⟩⟩
  rintro i H1 ⟨i0, i1, hs⟩
  obtain ⟨i, rfl⟩ : ∃ j : Nat, i = j := ⟨i.toNat, by omega⟩
  refine ⟨fun hi => ⟨H1, Sub.refl _, ?_⟩, fun _ => ⟨rfl, hs⟩⟩
  have hi' : i < n := by simpa using hi
  obtain ⟨x, hx, hxr⟩ := (h1.mono hs).ex (i := (i : Int)) (by omega) (by omega)
  have hyr : Reads H1 (elemA ob (i : Int) 13) (mE x) := (h2.mono hs).at (by omega) hx
  rw [Int.toNat_natCast] at hx
  have hsm := same_ok ((hok x (List.mem_of_getElem? hx)).mono hs)
  have hob1 : Ob (oa ≠ none ∧ 0 ≤ (i : Int) ∧ (i : Int) < n) := h1.ob (by omega) (by omega)
  have hob2 : Ob (ob ≠ none ∧ 0 ≤ (i : Int) ∧ (i : Int) < n) := h2.ob (by omega) (by omega)
  obtain ⟨y1, y2, y3, y4, y5, y6, y7, y8, y9, y10, ⟨ya, yb, yc, yl⟩, ⟨za, zb, zc, zl⟩, ⟨wa, wb, wc, wl⟩⟩ := x
  refine ⟨hob1, y1, y2, y3, y4, y5, y6, y7, y8, y9, y10, ya, yb, yc, za, zb, zc, wa, wb, wc, hxr, hob2, y1, y2, y3, y4, y5, y6, y7, y8, y9, y10, ya, yb, yc, za, zb, zc, wa, wb, wc, hyr, hsm.mono ?_⟩
  rintro _ H51 ⟨rfl, hs2⟩
  rw [wrapS (by omega) (by omega)]
  exact ⟨true, rfl, fun e => by simp at e, fun _ => ⟨⟨by omega, by omega, hs.trans hs2⟩, ⟨by simp only; omega⟩⟩⟩
end Go.Rnd
