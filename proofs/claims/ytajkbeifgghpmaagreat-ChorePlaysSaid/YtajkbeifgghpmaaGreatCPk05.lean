/- The contracts of the reference's round, and what the two have in common. · What is to be shown of each function, in its normal form.  · The contracts of plans: which may be, and how many must tell that there is nothing. · What is to be shown of each function, in its normal form.  -/
import Derived.Test.YtajkbeifgghpmaaGreatProg
import Derived.Test.YtajkbeifgghpmaaGreatCPk04
set_option linter.unusedVariables false
set_option maxRecDepth 100000
namespace Go.Rnd
open Go.Vx Go.Vc Go.Proofs
theorem fldM {H : PHeap} {oa : Option Addr} {x : Msg} (h : Reads H oa (mE x)) {j : Nat} {v : Value} (hv : (mE x)[j]? = some v) : Reads H (fldA oa j) [v] := h.fld j fun i u hu => by
  match i, hu with
  | 0, hu => simp at hu; subst hu; exact hv
  | i + 1, hu => simp at hu
abbrev froms (G : List Msg) : List Int := G.map from_
/-- An answer is put in where it belongs. -/
def insG (G : List Msg) (m : Msg) : List Msg := G.takeWhile (fun x => decide (from_ x < from_ m)) ++ m :: G.dropWhile (fun x => decide (from_ x < from_ m))
theorem mem_ins {G : List Msg} {m x : Msg} : x ∈ insG G m ↔ x ∈ G ∨ x = m := by
  have : x ∈ G ↔ x ∈ G.takeWhile (fun x => decide (from_ x < from_ m)) ∨ x ∈ G.dropWhile (fun x => decide (from_ x < from_ m)) := by
    conv => lhs; rw [← List.takeWhile_append_dropWhile (p := fun x => decide (from_ x < from_ m)) (l := G)]
    rw [List.mem_append]
  rw [this]
  unfold insG
  simp only [List.mem_append, List.mem_cons]
  constructor
  · rintro (h | rfl | h)
    · exact .inl (.inl h)
    · exact .inr rfl
    · exact .inl (.inr h)
  · rintro ((h | h) | rfl)
    · exact .inl h
    · exact .inr (.inr h)
    · exact .inr (.inl rfl)
theorem ins_len (G : List Msg) (m : Msg) : (insG G m).length = G.length + 1 := by
  have := congrArg List.length (List.takeWhile_append_dropWhile (p := fun x => decide (from_ x < from_ m)) (l := G))
  unfold insG
  simp only [List.length_append, List.length_cons] at *
  omega
theorem ins_perm (G : List Msg) (m : Msg) : (insG G m).Perm (G ++ [m]) := by
  unfold insG
  refine List.perm_middle.trans ?_
  rw [List.takeWhile_append_dropWhile]
  exact (List.perm_append_singleton m G).symm
def AscG (G : List Msg) : Prop := (froms G).Pairwise (· < ·)
theorem twG {G : List Msg} {k : Int} {x : Msg} (h : x ∈ G.takeWhile (fun x => decide (from_ x < k))) : from_ x < k := by
  induction G with
  | nil => cases h
  | cons y ys ih =>
    rw [List.takeWhile_cons] at h
    split at h
    · rename_i hy
      rcases List.mem_cons.1 h with rfl | h
      · simpa using hy
      · exact ih h
    · cases h
theorem dwG {G : List Msg} {k : Int} {x : Msg} (ha : AscG G) (h : x ∈ G.dropWhile (fun x => decide (from_ x < k))) : k ≤ from_ x := by
  induction G with
  | nil => cases h
  | cons y ys ih =>
    have ha' : (∀ a ∈ froms ys, from_ y < a) ∧ AscG ys := by simpa [AscG, froms] using ha
    rw [List.dropWhile_cons] at h
    split at h
    · exact ih ha'.2 h
    · rename_i hy
      have hy' : k ≤ from_ y := by simpa using hy
      rcases List.mem_cons.1 h with rfl | h
      · exact hy'
      · have := ha'.1 (from_ x) (List.mem_map.2 ⟨x, h, rfl⟩); omega
theorem ins_asc {G : List Msg} {m : Msg} (h : AscG G) (hm : from_ m ∉ froms G) : AscG (insG G m) := by
  have h' := h
  unfold AscG froms at h'
  rw [← List.takeWhile_append_dropWhile (p := fun x => decide (from_ x < from_ m)) (l := G), List.map_append, List.pairwise_append] at h'
  unfold AscG froms insG
  rw [List.map_append, List.map_cons]
  refine List.pairwise_append.2 ⟨h'.1, List.pairwise_cons.2 ⟨fun y hy => ?_, h'.2.1⟩, fun a ha b hb => ?_⟩
  · obtain ⟨x, hx, rfl⟩ := List.mem_map.1 hy
    have h1 := dwG h hx
    have h2 : x ∈ G := (List.dropWhile_sublist (p := fun x => decide (from_ x < from_ m))).subset hx
    have : from_ m ≠ from_ x := fun e => hm (List.mem_map.2 ⟨x, h2, e.symm⟩)
    omega
  · obtain ⟨x, hx, rfl⟩ := List.mem_map.1 ha
    rcases List.mem_cons.1 hb with rfl | hb
    · exact twG hx
    · exact h'.2.2 _ ha b hb
/-- The answers in a map, and the same ones in a list. -/
structure Both (got : List (Int × Msg)) (G : List Msg) : Prop where
  asc : AscG G
  keys : (got.map (·.1)).Perm (froms G)
  look : ∀ m ∈ G, mlook got (from_ m) = some m
  none_ : ∀ i, i ∉ froms G → mlook got i = none
theorem Both.nil : Both [] [] := ⟨List.Pairwise.nil, List.Perm.refl _, fun _ h => (by cases h), fun _ _ => rfl⟩
theorem Both.some {got : List (Int × Msg)} {G : List Msg} (h : Both got G) (i : Int) : (mlook got i).isSome = decide (i ∈ froms G) := by
  by_cases hi : i ∈ froms G
  · obtain ⟨m, hm, rfl⟩ := List.mem_map.1 hi
    rw [h.look m hm, decide_eq_true hi]; rfl
  · rw [h.none_ i hi, decide_eq_false hi]; rfl
theorem mlook_app (got : List (Int × Msg)) (k : Int) (m : Msg) (i : Int) : mlook (got ++ [(k, m)]) i = (mlook got i).or (if k = i then some m else none) := by
  unfold mlook
  rw [List.find?_append]
  cases hx : List.find? (fun p => decide (p.1 = i)) got with
  | some p => simp
  | none =>
    simp only [Option.none_or, Option.map_none]
    by_cases e : k = i
    · simp [e]
    · simp [e]
theorem Both.put {got : List (Int × Msg)} {G : List Msg} (h : Both got G) {m : Msg} (hm : from_ m ∉ froms G) : Both (got ++ [(from_ m, m)]) (insG G m) := by
  refine ⟨ins_asc h.asc hm, ?_, fun x hx => ?_, fun i hi => ?_⟩
  · rw [List.map_append]
    refine (List.Perm.append_right _ h.keys).trans ?_
    have := (ins_perm G m).map from_
    rw [List.map_append] at this
    exact this.symm
  · rw [mlook_app]
    rcases mem_ins.1 hx with hx | rfl
    · rw [h.look x hx]; rfl
    · rw [h.none_ _ hm]; simp
  · have hi' : i ∉ froms G ∧ from_ m ≠ i := ⟨fun h1 => by
      obtain ⟨x, hx, e⟩ := List.mem_map.1 h1
      exact hi (List.mem_map.2 ⟨x, mem_ins.2 (.inl hx), e⟩), fun e => hi (List.mem_map.2 ⟨m, mem_ins.2 (.inr rfl), e⟩)⟩
    rw [mlook_app, h.none_ i hi'.1, if_neg hi'.2]; rfl
theorem asc_extI : ∀ {l m : List Int}, l.Pairwise (· < ·) → m.Pairwise (· < ·) → l.Perm m → l = m := fun h1 h2 hp =>
  hp.eq_of_pairwise (le := (· < ·)) (fun a b _ _ h h' => by omega) h1 h2
theorem Both.got {got : List (Int × Msg)} {G : List Msg} (h : Both got G) {K : List Int} (hK : GotL got K) : K.map (fun i => (mlook got i).getD z0) = G := by
  have hp : K.Perm (froms G) := hK.perm.trans h.keys
  have hnd : K.Nodup := hp.nodup_iff.2 (h.asc.imp fun h => by omega)
  have hlt : K.Pairwise (· < ·) := List.Pairwise.imp₂ (fun a b h1 h2 => by
    have : a ≠ b := h2
    omega) hK.rise hnd
  have := asc_extI hlt h.asc hp
  rw [this, List.map_map]
  conv => rhs; rw [← List.map_id G]
  refine List.map_congr_left fun m hm => ?_
  simp [h.look m hm]
/-- The reference's round: a value of slices. -/
structure RV where
  a : Option Addr
  an : Nat
  ac : Nat
  w : Option Addr
  wn : Nat
  wc : Nat
  g : Option Addr
  gn : Nat
  gc : Nat
abbrev RV.v (r : RV) (tries : Int) : Value := .agg #[.slice r.a r.an r.ac, .slice r.w r.wn r.wc, .slice r.g r.gn r.gc, .int .i64 tries]
structure RdR (H : PHeap) (r : RV) (asks : List Msg) (wait : List Int) (G : List Msg) : Prop where
  asks : RdL H mE 13 r.a r.an asks
  wait : RdL H iE 1 r.w r.wn wait
  got : RdL H mE 13 r.g r.gn G
  cap : r.gn ≤ r.gc
theorem RdR.mono {H H' : PHeap} {r : RV} {asks : List Msg} {wait : List Int} {G : List Msg} (h : RdR H r asks wait G) (hs : Sub H H') : RdR H' r asks wait G := ⟨h.asks.mono hs, h.wait.mono hs, h.got.mono hs, h.cap⟩
theorem refNew_ok (H : PHeap) (tries : Int) (oa ob : Option Addr) (n c m d : Nat) : Triple Tryz.prog 63 #[.int .i64 tries, .slice oa n c, .slice ob m d] H fun v H' => v = (⟨oa, n, c, ob, m, d, none, 0, 0⟩ : RV).v (maxI tries 0) ∧ H' = H := by
  refine refNew.vc tries oa n c ob m d H _ ⟨?_, rfl⟩
  have : (bif decide (tries < 0) then 0 else tries) = maxI tries 0 := by
    unfold maxI
    by_cases h : tries < 0
    · simp [h]
    · first | (simp [h]; done) | (simp [h]; omega)
  rw [this]
theorem has_ok {H : PHeap} {r : RV} {tries : Int} {G : List Msg} {i : Int} (hg : RdL H mE 13 r.g r.gn G) (hn : r.gn ≤ 100000) :
    Triple Tryz.prog 79 #[r.v tries, .int .i64 i] H fun v H' => v = .bool (decide (i ∈ froms G)) ∧ H' = H := by
  have hll := hg.len
  refine refHas.vc r.a r.an r.ac r.w r.wn r.wc r.g r.gn r.gc tries i H _ ⟨fun t H' => match t with | [.int _ k] => 0 ≤ k ∧ k ≤ r.gn ∧ H' = H ∧ i ∉ froms (G.take k.toNat) | _ => False, fun t _ => match t with | [.int _ k] => (r.gn - k).toNat | _ => 0, ⟨by omega, by omega, rfl, by simp⟩, ?_⟩
  rintro k H1 ⟨k0, k1, hH, hno⟩
  obtain rfl := hH.symm
  obtain ⟨k, rfl⟩ : ∃ j : Nat, k = j := ⟨k.toNat, by omega⟩
  rw [Int.toNat_natCast] at hno
  refine ⟨fun hk => ?_, fun hk => ?_⟩
  · have hk' : k < r.gn := by simpa using hk
    obtain ⟨x, hx, hxr⟩ := hg.ex (i := (k : Int)) (by omega) (by omega)
    rw [Int.toNat_natCast] at hx
    refine ⟨hg.ob (by omega) (by omega), ⟨hg.elem_ne (by omega) (by omega)⟩, from_ x, fldM (j := 1) hxr rfl, fun e => ⟨?_, rfl⟩, fun e => ?_⟩
    · have : from_ x = i := by simpa using e
      rw [decide_eq_true (List.mem_map.2 ⟨x, List.mem_of_getElem? hx, this⟩)]
    · have hne : from_ x ≠ i := by simpa using e
      rw [wrapS (by omega) (by omega)]
      refine ⟨⟨by omega, by omega, rfl, ?_⟩, ⟨by simp only; omega⟩⟩
      rw [show ((k : Int) + 1).toNat = k + 1 by omega, List.take_add_one, hx, show ∀ a b, froms (a ++ b) = froms a ++ froms b from fun _ _ => List.map_append, List.mem_append, not_or]
      exact ⟨hno, by simpa using fun e => hne e.symm⟩
  · have hk' : ¬ k < r.gn := by simpa using hk
    rw [List.take_of_length_le (by omega)] at hno
    exact ⟨by rw [decide_eq_false hno], rfl⟩
theorem refAll_ok {H : PHeap} {r : RV} {tries : Int} {asks : List Msg} {wait : List Int} {G : List Msg} (h : RdR H r asks wait G) (hn : r.gn ≤ 100000) (hw : r.wn ≤ 100000) :
    Triple Tryz.prog 50 #[r.v tries] H fun v H' => v = .bool (wait.all fun i => decide (i ∈ froms G)) ∧ H' = H := by
  have hwl := h.wait.len
  refine refAll.vc r.a r.an r.ac r.w r.wn r.wc r.g r.gn r.gc tries H _ ⟨fun t H' => match t with | [.int _ k] => 0 ≤ k ∧ k ≤ r.wn ∧ H' = H ∧ ∀ i ∈ wait.take k.toNat, i ∈ froms G | _ => False, fun t _ => match t with | [.int _ k] => (r.wn - k).toNat | _ => 0, ⟨by omega, by omega, rfl, by simp⟩, ?_⟩
  rintro k H1 ⟨k0, k1, hH, hall⟩
  obtain rfl := hH.symm
  obtain ⟨k, rfl⟩ : ∃ j : Nat, k = j := ⟨k.toNat, by omega⟩
  rw [Int.toNat_natCast] at hall
  refine ⟨fun hk => ?_, fun hk => ?_⟩
  · have hk' : k < r.wn := by simpa using hk
    obtain ⟨x, hx, hxr⟩ := h.wait.ex (i := (k : Int)) (by omega) (by omega)
    rw [Int.toNat_natCast] at hx
    refine ⟨H, Sub.refl _, h.wait.ob (by omega) (by omega), x, hxr, (has_ok (r := r) h.got hn).mono ?_⟩
    rintro _ H2 ⟨rfl, hH⟩
    obtain rfl := hH.symm
    refine ⟨_, rfl, fun e => ⟨?_, rfl⟩, fun e => ?_⟩
    · have hne : x ∉ froms G := by simpa using e
      have : (wait.all fun i => decide (i ∈ froms G)) = false := by
        rw [List.all_eq_false]
        exact ⟨x, List.mem_of_getElem? hx, by simpa using hne⟩
      rw [this]
    · have hin : x ∈ froms G := by simpa using e
      rw [wrapS (by omega) (by omega)]
      refine ⟨⟨by omega, by omega, rfl, fun i hi => ?_⟩, ⟨by simp only; omega⟩⟩
      rw [show ((k : Int) + 1).toNat = k + 1 by omega, List.take_add_one, hx] at hi
      rcases List.mem_append.1 hi with hi | hi
      · exact hall i hi
      · simp at hi; subst hi; exact hin
  · have hk' : ¬ k < r.wn := by simpa using hk
    rw [List.take_of_length_le (by omega)] at hall
    have : (wait.all fun i => decide (i ∈ froms G)) = true := by
      rw [List.all_eq_true]; exact fun i hi => decide_eq_true (hall i hi)
    exact ⟨by rw [this], rfl⟩
/-- Does an answer count? -/
def takesG (wait : List Int) (G : List Msg) (m : Msg) : Bool := decide (from_ m ∈ wait) && !decide (from_ m ∈ froms G)
theorem twG_len {G : List Msg} {k : Int} {i : Nat} (h1 : ∀ j x, j < i → G[j]? = some x → from_ x < k) (h2 : i ≤ G.length) (h3 : ∀ x, G[i]? = some x → ¬ from_ x < k) :
    G.takeWhile (fun x => decide (from_ x < k)) = G.take i ∧ G.dropWhile (fun x => decide (from_ x < k)) = G.drop i := by
  induction G generalizing i with
  | nil => simp
  | cons y ys ih =>
    cases i with
    | zero =>
      have := h3 y rfl
      have : decide (from_ y < k) = false := decide_eq_false this
      simp [List.takeWhile_cons, List.dropWhile_cons, this]
    | succ i =>
      have hy : decide (from_ y < k) = true := decide_eq_true (h1 0 y (by omega) rfl)
      obtain ⟨g1, g2⟩ := ih (i := i) (fun j z hj hz => h1 (j + 1) z (by omega) (by simpa using hz)) (by simpa using h2) (fun z hz => h3 z (by simpa using hz))
      simp [List.takeWhile_cons, List.dropWhile_cons, hy, g1, g2]
theorem refTake_ok {H : PHeap} {r : RV} {tries : Int} {asks : List Msg} {wait : List Int} {G : List Msg} {m : Msg} (h : RdR H r asks wait G) (hn : r.gn ≤ 100000) (hw : r.wn ≤ 100000) :
    Triple Tryz.prog 49 #[r.v tries, vM m] H fun v H' => ∃ r' : RV, v = .tuple #[r'.v tries, .bool (takesG wait G m)] ∧ RdR H' r' asks wait (if takesG wait G m then insG G m else G) ∧ r'.gn = r.gn + (if takesG wait G m then 1 else 0) ∧ r'.wn = r.wn ∧ r'.an = r.an ∧ Sub H H' := by
  have hwl := h.wait.len
  have hgl := h.got.len
  obtain ⟨y1, y2, y3, y4, y5, y6, y7, y8, y9, y10, ⟨ya, yb, yc, yl⟩, ⟨za, zb, zc, zl⟩, ⟨wa, wb, wc, wl⟩⟩ := m
  generalize hm : ((y1, y2, y3, y4, y5, y6, y7, y8, y9, y10, ⟨ya, yb, yc, yl⟩, ⟨za, zb, zc, zl⟩, ⟨wa, wb, wc, wl⟩) : Msg) = m
  have hf : from_ m = y2 := by rw [← hm]
  have no : takesG wait G m = false → ∃ r' : RV, Value.tuple #[r.v tries, .bool false] = .tuple #[r'.v tries, .bool (takesG wait G m)] ∧ RdR H r' asks wait (if takesG wait G m then insG G m else G) ∧ r'.gn = r.gn + (if takesG wait G m then 1 else 0) ∧ r'.wn = r.wn ∧ r'.an = r.an ∧ Sub H H := by
    intro e; rw [e]; exact ⟨r, rfl, h, by simp, rfl, rfl, Sub.refl _⟩
  have hv : vM m = .agg #[.int .i64 y1, .int .i64 y2, .int .i64 y3, .int .i64 y4, .string y5, .int .i64 y6, .int .i64 y7, .int .i64 y8, .int .i64 y9, .int .i64 y10, .slice ya yb yc, .slice za zb zc, .slice wa wb wc] := by rw [← hm]; rfl
  rw [hv]
  refine refTake.vc r.a r.an r.ac r.w r.wn r.wc r.g r.gn r.gc tries y1 y2 y3 y4 y5 y6 y7 y8 y9 y10 ya yb yc za zb zc wa wb wc H _
    ⟨fun t H' => match t with | [.bool b, .int _ k] => 0 ≤ k ∧ k ≤ r.wn ∧ H' = H ∧ b = decide (y2 ∈ wait.take k.toNat) | _ => False, fun t _ => match t with | [_, .int _ k] => (r.wn - k).toNat | _ => 0, ⟨by omega, by omega, rfl, by simp⟩, ?_⟩
  rintro b k H1 ⟨k0, k1, hH, rfl⟩
  obtain rfl := hH.symm
  obtain ⟨k, rfl⟩ : ∃ j : Nat, k = j := ⟨k.toNat, by omega⟩
  rw [Int.toNat_natCast]
  refine ⟨fun hk => ⟨H, Sub.refl _, ?_⟩, fun hk => ?_⟩
  · have hk' : k < r.wn := by simpa using hk
    obtain ⟨x, hx, hxr⟩ := h.wait.ex (i := (k : Int)) (by omega) (by omega)
    rw [Int.toNat_natCast] at hx
    rw [wrapS (by omega) (by omega)]
    have htk : wait.take (k + 1) = wait.take k ++ [x] := by rw [List.take_add_one, hx]; rfl
    refine ⟨fun e => ⟨h.wait.ob (by omega) (by omega), x, hxr, ⟨by omega, by omega, rfl, ?_⟩, ⟨by simp only; omega⟩⟩, fun e => ⟨⟨by omega, by omega, rfl, ?_⟩, ⟨by simp only; omega⟩⟩⟩
    · have hno : y2 ∉ wait.take k := by simpa using e
      rw [show ((k : Int) + 1).toNat = k + 1 by omega, htk, Bool.eq_iff_iff, beq_iff_eq, decide_eq_true_eq, List.mem_append, List.mem_singleton]
      exact ⟨fun e => .inr e.symm, fun e => e.elim (fun h => absurd h hno) fun h => h.symm⟩
    · have hin : y2 ∈ wait.take k := by simpa using e
      rw [show ((k : Int) + 1).toNat = k + 1 by omega, htk]
      simp [hin]
  · have hk' : ¬ k < r.wn := by simpa using hk
    rw [List.take_of_length_le (by omega)]
    refine ⟨fun e => ?_, fun e => no ?_⟩
    · have hin : y2 ∈ wait := by simpa using e
      refine (has_ok (r := r) h.got hn).mono ?_
      rintro _ H38 ⟨rfl, hH⟩
      obtain rfl := hH.symm
      refine ⟨_, rfl, fun e => no ?_, fun e => ?_⟩
      · have : y2 ∈ froms G := by simpa using e
        unfold takesG; rw [hf]; simp [this]
      · have hnG : y2 ∉ froms G := by simpa using e
        have htk : takesG wait G m = true := by unfold takesG; rw [hf]; simp [hin, hnG]
        refine ⟨fun t H' => match t with | [.int _ j] => 0 ≤ j ∧ j ≤ r.gn ∧ H' = H ∧ ∀ z x, z < j.toNat → G[z]? = some x → from_ x < from_ m | _ => False, fun t _ => match t with | [.int _ j] => (r.gn - j).toNat | _ => 0, ⟨by omega, by omega, rfl, fun z x hz => by simp at hz⟩, ?_⟩
        rintro j H43 ⟨j0, j1, hH, hlt⟩
        obtain rfl := hH.symm
        obtain ⟨j, rfl⟩ : ∃ z : Nat, j = z := ⟨j.toNat, by omega⟩
        rw [Int.toNat_natCast] at hlt
        have fin : (∀ x, G[j]? = some x → ¬ from_ x < from_ m) → ∀ b m' k' H', RdL H' mE 13 b m' (G.take j ++ m :: G.drop j) → m' ≤ k' → Sub H H' →
            ∃ r' : RV, Value.tuple #[.agg #[.slice r.a r.an r.ac, .slice r.w r.wn r.wc, .slice b m' k', .int .i64 tries], .bool true] = .tuple #[r'.v tries, .bool (takesG wait G m)] ∧ RdR H' r' asks wait (if takesG wait G m then insG G m else G) ∧ r'.gn = r.gn + (if takesG wait G m then 1 else 0) ∧ r'.wn = r.wn ∧ r'.an = r.an ∧ Sub H H' := by
          intro hst b m' k' H' g1 g2 g3
          obtain ⟨t1, t2⟩ := twG_len hlt (by omega) hst
          have hins : insG G m = G.take j ++ m :: G.drop j := by unfold insG; rw [t1, t2]
          have hml := g1.len
          rw [htk, if_pos rfl, if_pos rfl, hins]
          refine ⟨⟨r.a, r.an, r.ac, r.w, r.wn, r.wc, b, m', k'⟩, rfl, ⟨h.asks.mono g3, h.wait.mono g3, g1, g2⟩, ?_, rfl, rfl, g3⟩
          simp only [List.length_append, List.length_cons, List.length_take, List.length_drop] at hml
          show m' = r.gn + 1
          omega
        have hca : (#[.int .i64 y1, .int .i64 y2, .int .i64 y3, .int .i64 y4, .string y5, .int .i64 y6, .int .i64 y7, .int .i64 y8, .int .i64 y9, .int .i64 y10, .slice ya yb yc, .slice za zb zc, .slice wa wb wc] : Array Value).toList = mE m := by rw [← hm]; rfl
        refine ⟨H, Sub.refl _, fun hj => ?_, fun hj => ?_⟩
        · have hj' : j < r.gn := by simpa using hj
          obtain ⟨x, hx, hxr⟩ := h.got.ex (i := (j : Int)) (by omega) (by omega)
          rw [Int.toNat_natCast] at hx
          refine ⟨h.got.ob (by omega) (by omega), ⟨h.got.elem_ne (by omega) (by omega)⟩, from_ x, fldM (j := 1) hxr rfl, fun e => ?_, fun e => ?_⟩
          · have hxm : from_ x < from_ m := by rw [hf]; simpa using e
            rw [wrapS (by omega) (by omega)]
            refine ⟨⟨by omega, by omega, rfl, fun z u hz hu => ?_⟩, ⟨by simp only; omega⟩⟩
            by_cases ez : z = j
            · subst ez; rw [hx] at hu; cases hu; exact hxm
            · exact hlt z u (by omega) hu
          · have hxm : ¬ from_ x < from_ m := by rw [hf]; simpa using e
            exact ins_tail tM mLen mOne hca h.got (by omega) h.cap (by omega) (by omega) (fin fun u hu => by rw [hx] at hu; cases hu; exact hxm)
        · have hj' : ¬ j < r.gn := by simpa using hj
          exact ins_tail tM mLen mOne hca h.got (by omega) h.cap (by omega) (by omega) (fin fun u hu => by have := (List.getElem?_eq_some_iff.1 hu).1; omega)
    · have : y2 ∉ wait := by simpa using e
      unfold takesG; rw [hf]; simp [this]
def againG (asks G : List Msg) : List Msg := asks.filter fun x => !decide (to_ x ∈ froms G)
theorem refTick_ok {H : PHeap} {r : RV} {tries : Int} {asks : List Msg} {wait : List Int} {G : List Msg} (h : RdR H r asks wait G) (hn : r.gn ≤ 100000) (ha : r.an ≤ 100000) :
    Triple Tryz.prog 39 #[r.v tries] H fun v H' =>
      (tries = 0 ∧ v = .tuple #[r.v tries, .slice none 0 0, .bool true] ∧ H' = H) ∨
      (tries ≠ 0 ∧ Sub H H' ∧ ∃ b m c, v = .tuple #[r.v (IntKind.i64.wrap (tries - 1)), .slice b m c, .bool false] ∧ RdL H' mE 13 b m (againG asks G)) := by
  have hal := h.asks.len
  refine refTick.vc r.a r.an r.ac r.w r.wn r.wc r.g r.gn r.gc tries H _ ⟨fun e => .inl ⟨by simpa using e, rfl, rfl⟩, fun e => ?_⟩
  have ht : tries ≠ 0 := by simpa using e
  refine ⟨fun t H' => match t with | [.slice b m c, .int _ i] => 0 ≤ i ∧ i ≤ r.an ∧ ∃ o, Sub H H' ∧ OwnL H' 52 mE 13 b m c o ∧ Off H b ∧ o = (asks.take i.toNat).filter (fun x => !decide (to_ x ∈ froms G)) | _ => False, fun t _ => match t with | [_, .int _ i] => (r.an - i).toNat | _ => 0,
    ⟨by omega, by omega, [], Sub.refl _, Owns.nil _ _ 13, Off.none _, by simp⟩, ?_⟩
  rintro b m c i H17 ⟨i0, i1, o, hs, ho, hoff, hoe⟩
  obtain ⟨i, rfl⟩ : ∃ j : Nat, i = j := ⟨i.toNat, by omega⟩
  rw [Int.toNat_natCast] at hoe
  refine ⟨fun hi => ⟨H17, Sub.refl _, ?_⟩, fun hi => ?_⟩
  · have hi' : i < r.an := by simpa using hi
    have h17 := h.asks.mono hs
    obtain ⟨x, hx, hxr⟩ := h17.ex (i := (i : Int)) (by omega) (by omega)
    rw [Int.toNat_natCast] at hx
    have hf2 := fldM (j := 2) hxr rfl
    have hol := (ho.rd (E := mE) (sz := 13) (by omega) mLen).len
    have hfl := List.length_filter_le (fun x => !decide (to_ x ∈ froms G)) (asks.take i)
    rw [List.length_take, ← hoe] at hfl
    have htk : (asks.take (i + 1)).filter (fun x => !decide (to_ x ∈ froms G)) = o ++ if to_ x ∈ froms G then [] else [x] := by
      rw [List.take_add_one, hx, List.filter_append, ← hoe]
      congr 1
      by_cases hh : to_ x ∈ froms G <;> simp [hh]
    refine ⟨h17.ob (by omega) (by omega), ⟨h17.elem_ne (by omega) (by omega)⟩, to_ x, hf2, (has_ok (r := r) (h.got.mono hs) hn).mono ?_⟩
    rintro _ H21 ⟨rfl, hH⟩
    obtain rfl := hH.symm
    rw [wrapS (by omega) (by omega)]
    refine ⟨_, rfl, fun e => ?_, fun e => ?_⟩
    · have hno : to_ x ∉ froms G := by simpa using e
      rw [if_neg hno] at htk
      have hone : ∀ k42 : Nat, H17 k42 = none → EvV Tryz.prog (Builtin.append_ #[28, 28] 28 #[.slice b m c, .slice (at0 k42) 1 1]) (H17.upd k42 (.cells (mE x).toArray 52)) fun v43 H44 => ∃ a45 k46 k47, v43 = Value.slice a45 k46 k47 ∧
          ((0 ≤ (i : Int) + 1 ∧ (i : Int) + 1 ≤ r.an ∧ ∃ o, Sub H H44 ∧ OwnL H44 52 mE 13 a45 k46 k47 o ∧ Off H a45 ∧ o = (asks.take ((i : Int) + 1).toNat).filter (fun x => !decide (to_ x ∈ froms G))) ∧ Less ((r.an - ((i : Int) + 1)).toNat) ((r.an - (i : Int)).toNat)) := by
        intro k42 hk42
        refine append_one tM (E := mE) (l := o) (x := x) hk42 mLen ho rfl (mOne x) (by simp [maxLen]; omega) (by omega) ?_
        intro b' c' H' how hf hfr _
        exact ⟨b', m + 1, c', rfl, ⟨by omega, by omega, o ++ [x], hf.sub hs hoff, how, hfr.off hs hoff, by rw [show ((i : Int) + 1).toNat = i + 1 by omega, htk]⟩, ⟨by omega⟩⟩
      obtain ⟨y1, y2, y3, y4, y5, y6, y7, y8, y9, y10, ⟨ya, yb, yc, yl⟩, ⟨za, zb, zc, zl⟩, ⟨wa, wb, wc, wl⟩⟩ := x
      exact ⟨h17.ob (by omega) (by omega), y1, y2, y3, y4, y5, y6, y7, y8, y9, y10, ya, yb, yc, za, zb, zc, wa, wb, wc, hxr, hone⟩
    · have hin : to_ x ∈ froms G := by simpa using e
      rw [if_pos hin, List.append_nil] at htk
      exact ⟨⟨by omega, by omega, o, hs, ho, hoff, by rw [show ((i : Int) + 1).toNat = i + 1 by omega, htk]⟩, ⟨by simp only; omega⟩⟩
  · have hi' : ¬ i < r.an := by simpa using hi
    rw [List.take_of_length_le (by omega)] at hoe
    subst hoe
    exact .inr ⟨ht, hs, b, m, c, rfl, ho.rd (E := mE) (sz := 13) (by omega) mLen⟩
end Go.Rnd
namespace Go.Vc
open Go.Vx Go Go.Proofs.Tryz
def planRight.cx : Cx := ⟨[], [], [], []⟩
def planIn.cx : Cx := ⟨[], [], [], []⟩
def planQuorum.cx : Cx := ⟨[1], [], [], []⟩
def planQuorum1.cx : Cx := ⟨[], [], [], []⟩
def planOfI.cx : Cx := ⟨[], [], [], []⟩
def refPRight.cx : Cx := ⟨[], [], [], []⟩
theorem planRight.vc (n1 n2 n3 n4 n5 n6 : Int) (H : PHeap) (Q : Value -> PHeap -> Prop)
 (h : Triple prog 52 #[iw n2, iw 1, iw 256] H fun v7 H8 => ∃ b9, v7 = .bool b9 /\ ((!b9) = false -> Triple prog 52 #[iw n3, iw 1, iw 256] H8 fun v10 H11 => ∃ b12, v10 = .bool b12 /\ ((!b12) = false ->
 Triple prog 52 #[iw n4, iw 1, iw 256] H11 fun v13 H14 => ∃ b15, v13 = .bool b15 /\ ((!b15) = false -> Triple prog 52 #[iw n1, iw 1, iw 256] H14 fun v16 H17 => ∃ b18, v16 = .bool b18 /\
 ((!b18) = true -> Q (.bool false) H17) /\ ((!b18) = false -> (decide (IntKind.i64.wrap (n2 + n3) ≤ n4) = true -> (decide (n4 ≤ n1) = true -> (decide (IntKind.i64.wrap (n1 + n3) ≤ 256) = true ->
 Triple prog 52 #[iw n5, iw 1, iw 256] H17 fun v19 H20 => ∃ b21, v19 = .bool b21 /\ (b21 = true -> Triple prog 52 #[iw n6, iw 1, iw 64] H20 fun v22 H23 => ∃ b24, v22 = .bool b24 /\ Q (.bool b24) H23) /\
 (b21 = !true -> Q (.bool false) H20)) /\ (decide (IntKind.i64.wrap (n1 + n3) ≤ 256) = !true -> Q (.bool false) H17)) /\ (decide (n4 ≤ n1) = !true -> Q (.bool false) H17)) /\
 (decide (IntKind.i64.wrap (n2 + n3) ≤ n4) = !true -> Q (.bool false) H17))) /\ ((!b15) = !false -> Q (.bool false) H14)) /\ ((!b12) = !false -> Q (.bool false) H11)) /\ ((!b9) = !false -> Q (.bool false) H8)) :
 Triple prog 19 ([.agg #[iw n1, iw n2, iw n3, iw n4, iw n5, iw n6]]).toArray H Q := Triple.of_vc planRight.cx (by kernel_rfl) h
theorem planIn.vc (n1 n2 n3 : Int) (H : PHeap) (Q : Value -> PHeap -> Prop)
 (h : Q (.bool (bif decide (n1 ≥ n2) then decide (n1 ≤ n3) else false)) H) : Triple prog 52 ([iw n1, iw n2, iw n3]).toArray H Q := Triple.of_vc planIn.cx (by kernel_rfl) h
theorem planQuorum.vc (n1 n2 n3 n4 n5 n6 : Int) (H : PHeap) (Q : Value -> PHeap -> Prop)
 (h : ∀ (k7 : Nat), H k7 = none -> ∃ n8 n9 n10 n11 n12 n13, Reads (H.upd k7 (Obj.cells #[iw n1, iw n2, iw n3, iw n4, iw n5, iw n6] 23)) (at0 k7) [iw n8, iw n9, iw n10, iw n11, iw n12, iw n13] /\ Triple prog 139
 #[.agg #[iw n8, iw n9, iw n10, iw n11, iw n12, iw n13], Value.func (Fn.func 150) #[] #[.pointer (at0 k7)]] (H.upd k7 (Obj.cells #[iw n1, iw n2, iw n3, iw n4, iw n5, iw n6] 23))
 fun v14 H15 => ∃ n16, v14 = iw n16 /\ Q (iw n16) H15) : Triple prog 124 ([.agg #[iw n1, iw n2, iw n3, iw n4, iw n5, iw n6]]).toArray H Q := Triple.of_vc planQuorum.cx (by kernel_rfl) h
theorem planQuorum1.vc (a1 : Option Addr) (H : PHeap) (Q : Value -> PHeap -> Prop)
 (h : Ob (a1 ≠ none) /\ ∃ n2, Reads H (fldA a1 0) [iw n2] /\ Ob (a1 ≠ none) /\ ∃ n3, Reads H (fldA a1 3) [iw n3] /\ Q (iw (IntKind.i64.wrap (IntKind.i64.wrap (n2 - n3) + 1))) H) :
 Triple prog 150 ([.pointer a1]).toArray H Q := Triple.of_vc planQuorum1.cx (by kernel_rfl) h
theorem planOfI.vc (n1 n2 n3 n4 n5 n6 : Int) (v7 : Value) (H : PHeap) (Q : Value -> PHeap -> Prop)
 (h : Triple prog 19 #[.agg #[iw n1, iw n2, iw n3, iw n4, iw n5, iw n6]] H fun v8 H9 => ∃ b10, v8 = .bool b10 /\
 ((!b10) = true -> Q (iw 0) H9) /\ ((!b10) = false -> CallY prog v7 #[] H9 fun v11 H12 => ∃ n13, v11 = iw n13 /\ Q (iw n13) H12)) : Triple prog 139 ([.agg #[iw n1, iw n2, iw n3, iw n4, iw n5, iw n6], v7]).toArray H Q :=
 Triple.of_vc planOfI.cx (by kernel_rfl) h
theorem refPRight.vc (n1 n2 n3 n4 n5 n6 : Int) (H : PHeap) (Q : Value -> PHeap -> Prop)
 (h : ((bif decide (n2 < 1) then true else bif decide (n3 < 1) then true else bif decide (n1 > 256) then true else bif decide (n4 > n1) then true else bif decide (n2 > 256) then true else decide (n3 > 256)) = true ->
 Q (.bool false) H) /\ ((bif decide (n2 < 1) then true
 else bif decide (n3 < 1) then true else bif decide (n1 > 256) then true else bif decide (n4 > n1) then true else bif decide (n2 > 256) then true else decide (n3 > 256)) = false -> Q (Value.bool
 (bif decide (IntKind.i64.wrap (n2 + n3) ≤ n4) then
 bif decide (IntKind.i64.wrap (n1 + n3) ≤ 256) then bif decide (n5 ≥ 1) then bif decide (n5 ≤ 256) then bif decide (n6 ≥ 1) then decide (n6 ≤ 64) else false else false else false else false else false)) H)) :
 Triple prog 16 ([.agg #[iw n1, iw n2, iw n3, iw n4, iw n5, iw n6]]).toArray H Q := Triple.of_vc refPRight.cx (by kernel_rfl) h
end Go.Vc
namespace Go.Pln
open Go.Vx Go.Vc Go.Proofs
structure Plan where
  n : Int
  t : Int
  l : Int
  w : Int
  s : Int
  r : Int
abbrev vI (n : Int) : Value := .int .i64 n
abbrev Plan.v (p : Plan) : Value := .agg #[vI p.n, vI p.t, vI p.l, vI p.w, vI p.s, vI p.r]
/-- A plan may be. -/
structure Plan.Ok (p : Plan) : Prop where
  t1 : 1 ≤ p.t
  t2 : p.t ≤ 256
  l1 : 1 ≤ p.l
  l2 : p.l ≤ 256
  w1 : 1 ≤ p.w
  w2 : p.w ≤ 256
  n1 : 1 ≤ p.n
  n2 : p.n ≤ 256
  tl : p.t + p.l ≤ p.w
  wn : p.w ≤ p.n
  nl : p.n + p.l ≤ 256
  s1 : 1 ≤ p.s
  s2 : p.s ≤ 256
  r1 : 1 ≤ p.r
  r2 : p.r ≤ 64
def Plan.ok (p : Plan) : Bool := decide (1 ≤ p.t ∧ p.t ≤ 256 ∧ 1 ≤ p.l ∧ p.l ≤ 256 ∧ 1 ≤ p.w ∧ p.w ≤ 256 ∧ 1 ≤ p.n ∧ p.n ≤ 256 ∧ p.t + p.l ≤ p.w ∧ p.w ≤ p.n ∧ p.n + p.l ≤ 256 ∧ 1 ≤ p.s ∧ p.s ≤ 256 ∧ 1 ≤ p.r ∧ p.r ≤ 64)
theorem Plan.ok_iff {p : Plan} : p.ok = true ↔ p.Ok := by
  unfold Plan.ok
  rw [decide_eq_true_eq]
  exact ⟨fun ⟨a, b, c, d, e, f, g, h, i, j, k, l, m, n, o⟩ => ⟨a, b, c, d, e, f, g, h, i, j, k, l, m, n, o⟩, fun ⟨a, b, c, d, e, f, g, h, i, j, k, l, m, n, o⟩ => ⟨a, b, c, d, e, f, g, h, i, j, k, l, m, n, o⟩⟩
theorem ok_false {p : Plan} (h : ¬ p.Ok) : p.ok = false := by
  cases e : p.ok with
  | false => rfl
  | true => exact absurd (Plan.ok_iff.1 e) h
theorem in_ok (n lo hi : Int) : Pure Tryz.prog 52 #[vI n, vI lo, vI hi] (.bool (decide (lo ≤ n ∧ n ≤ hi))) := fun H => by
  refine planIn.vc n lo hi H _ ⟨?_, rfl⟩
  congr 1
  by_cases h1 : n ≥ lo <;> by_cases h2 : n ≤ hi <;> simp [h1, h2] <;> omega
theorem right_ok (p : Plan) : Pure Tryz.prog 19 #[p.v] (.bool p.ok) := fun H => by
  have no : ∀ {b : Bool}, b = false → ¬ p.Ok → Value.bool b = .bool p.ok := fun hb h => by rw [ok_false h, hb]
  refine planRight.vc p.n p.t p.l p.w p.s p.r H _ ((in_ok _ _ _).use ⟨_, rfl, fun e1 => (in_ok _ _ _).use ⟨_, rfl, fun e2 => (in_ok _ _ _).use ⟨_, rfl, fun e3 => (in_ok _ _ _).use ⟨_, rfl, fun e4 => ?_, fun e4 => ?_⟩, fun e3 => ?_⟩, fun e2 => ?_⟩, fun e1 => ?_⟩)
  · exact ⟨no rfl fun h => by have := h.n1; have := h.n2; simp at e4; omega, rfl⟩
  · have h1 : 1 ≤ p.t ∧ p.t ≤ 256 := by simpa using e1
    have h2 : 1 ≤ p.l ∧ p.l ≤ 256 := by simpa using e2
    have h3 : 1 ≤ p.w ∧ p.w ≤ 256 := by simpa using e3
    have h4 : 1 ≤ p.n ∧ p.n ≤ 256 := by simpa using e4
    rw [wrap64 (n := p.t + p.l) (by omega) (by omega), wrap64 (n := p.n + p.l) (by omega) (by omega)]
    refine ⟨fun e5 => ⟨fun e6 => ⟨fun e7 => (in_ok _ _ _).use ⟨_, rfl, fun e8 => (in_ok _ _ _).use ⟨_, rfl, ?_, rfl⟩, fun e8 => ?_⟩, fun e7 => ?_⟩, fun e6 => ?_⟩, fun e5 => ?_⟩
    · have h5 : p.t + p.l ≤ p.w := by simpa using e5
      have h6 : p.w ≤ p.n := by simpa using e6
      have h7 : p.n + p.l ≤ 256 := by simpa using e7
      have h8 : 1 ≤ p.s ∧ p.s ≤ 256 := by simpa using e8
      congr 1
      rw [Bool.eq_iff_iff, decide_eq_true_eq, Plan.ok_iff]
      exact ⟨fun ⟨a, b⟩ => ⟨h1.1, h1.2, h2.1, h2.2, h3.1, h3.2, h4.1, h4.2, h5, h6, h7, h8.1, h8.2, a, b⟩, fun h => ⟨h.r1, h.r2⟩⟩
    · exact ⟨no rfl fun h => by have := h.s1; have := h.s2; simp at e8; omega, rfl⟩
    · exact ⟨no rfl fun h => by have := h.nl; simp at e7; omega, rfl⟩
    · exact ⟨no rfl fun h => by have := h.wn; simp at e6; omega, rfl⟩
    · exact ⟨no rfl fun h => by have := h.tl; simp at e5; omega, rfl⟩
  · exact ⟨no rfl fun h => by have := h.w1; have := h.w2; simp at e3; omega, rfl⟩
  · exact ⟨no rfl fun h => by have := h.l1; have := h.l2; simp at e2; omega, rfl⟩
  · exact ⟨no rfl fun h => by have := h.t1; have := h.t2; simp at e1; omega, rfl⟩
theorem refRight_ok (p : Plan) : Pure Tryz.prog 16 #[p.v] (.bool p.ok) := fun H => by
  have e0 : ∀ a b c d e f : Bool, (bif a then true else bif b then true else bif c then true else bif d then true else bif e then true else f) = (a || b || c || d || e || f) := by
    intro a b c d e f; cases a <;> cases b <;> cases c <;> cases d <;> cases e <;> cases f <;> rfl
  have e9 : ∀ a b c d e f : Bool, (bif a then bif b then bif c then bif d then bif e then f else false else false else false else false else false) = (a && b && c && d && e && f) := by
    intro a b c d e f; cases a <;> cases b <;> cases c <;> cases d <;> cases e <;> cases f <;> rfl
  refine refPRight.vc p.n p.t p.l p.w p.s p.r H _ ?_
  rw [e0, e9]
  refine ⟨fun e => ⟨?_, rfl⟩, fun e => ⟨?_, rfl⟩⟩
  · have h : ¬ p.Ok := fun h => by
      obtain ⟨a, b, c, d, e1, f, g, h, i, j, k, l, m, n, o⟩ := h
      simp only [Bool.or_eq_true, decide_eq_true_eq] at e
      omega
    rw [ok_false h]
  · simp only [Bool.or_eq_false_iff, decide_eq_false_iff_not] at e
    obtain ⟨⟨⟨⟨⟨h1, h2⟩, h3⟩, h4⟩, h5⟩, h6⟩ := e
    rw [wrap64 (n := p.t + p.l) (by omega) (by omega)]
    congr 1
    by_cases h7 : p.t + p.l ≤ p.w
    · rw [wrap64 (n := p.n + p.l) (by omega) (by omega), Bool.eq_iff_iff, Plan.ok_iff]
      simp only [Bool.and_eq_true, decide_eq_true_eq]
      exact ⟨fun ⟨⟨⟨⟨⟨a, b⟩, c⟩, d⟩, e⟩, f⟩ => ⟨by omega, by omega, by omega, by omega, by omega, by omega, by omega, by omega, a, by omega, b, c, d, e, f⟩, fun h => ⟨⟨⟨⟨⟨h.tl, h.nl⟩, h.s1⟩, h.s2⟩, h.r1⟩, h.r2⟩⟩
    · rw [ok_false fun h => h7 h.tl, decide_eq_false h7]; simp
theorem quorum_ok (H : PHeap) (p : Plan) : Triple Tryz.prog 124 #[p.v] H fun v H' => v = vI (if p.ok then p.n - p.w + 1 else 0) ∧ Sub H H' := by
  refine planQuorum.vc p.n p.t p.l p.w p.s p.r H _ fun k7 hk7 => ?_
  have hs := Sub.upd (.cells #[vI p.n, vI p.t, vI p.l, vI p.w, vI p.s, vI p.r] 23 (0, 0)) hk7
  have hb := Bx.new H k7 23 [vI p.n, vI p.t, vI p.l, vI p.w, vI p.s, vI p.r]
  refine ⟨p.n, p.t, p.l, p.w, p.s, p.r, hb.reads, planOfI.vc p.n p.t p.l p.w p.s p.r _ _ _ ((right_ok p).use ⟨_, rfl, fun e => ⟨_, rfl, ?_, hs⟩, fun e => CallY.fn (by kernel_rfl) (planQuorum1.vc (at0 k7) _ _ ⟨obP k7, p.n, hb.fld rfl, obP k7, p.w, hb.fld rfl, _, rfl, _, rfl, ?_, hs⟩)⟩)⟩
  · have : p.ok = false := by simpa using e
    rw [this]; rfl
  · have h : p.ok = true := by simpa using e
    have hp := Plan.ok_iff.1 h
    have := hp.n1; have := hp.n2; have := hp.w1; have := hp.w2
    rw [h, if_pos rfl, wrap64 (n := p.n - p.w) (by omega) (by omega), wrap64 (by omega) (by omega)]
end Go.Pln
namespace Go.Vc
open Go.Vx Go Go.Proofs.Tryz
def sSettle.cx : Cx := ⟨[5], [(5, [20], []), (15, [72], [])], [], []⟩
def sSettle1.cx : Cx := ⟨[], [], [], []⟩
def sValue.cx : Cx := ⟨[], [], [], []⟩
def sCount.cx : Cx := ⟨[], [(3, [5, 12], []), (6, [18], [])], [], []⟩
def sSound.cx : Cx := ⟨[], [], [], []⟩
def sLeft.cx : Cx := ⟨[], [], [], []⟩
def sMarked.cx : Cx := ⟨[], [], [], []⟩
def sHold.cx : Cx := ⟨[], [(3, [5, 10], [])], [], []⟩
def sWho.cx : Cx := ⟨[], [], [], []⟩
def fixOf.cx : Cx := ⟨[], [], [], []⟩
def rSettle.cx : Cx := ⟨[5], [(5, [6], []), (16, [7, 8, 9, 10], [])], [], []⟩
def rHold.cx : Cx := ⟨[], [(3, [5, 6], [])], [], []⟩
def rHolds.cx : Cx := ⟨[], [], [], []⟩
def rMarked.cx : Cx := ⟨[], [], [], []⟩
def rWho.cx : Cx := ⟨[], [], [], []⟩
theorem sSettle.vc (n1 n2 n3 n4 n5 n6 : Int) (a7 : Option Addr) (k8 k9 : Nat) (H : PHeap) (Q : Value -> PHeap -> Prop)
 (h : ∀ (k10 : Nat), H k10 = none -> Triple prog 19 #[.agg #[iw n1, iw n2, iw n3, iw n4, iw n5, iw n6]] (H.upd k10 (Obj.cells #[.bool false, .bool false, .bool false, iw 0, iw 0, iw 0, iw 0, sw none 0 0] 166))
 fun v11 H12 => ∃ b13, v11 = .bool b13 /\ ((!b13) = true -> ∃ b14 b15 b16 n17 n18 n19 n20 a21 k22 k23, Reads H12 (at0 k10) [.bool b14, .bool b15, .bool b16, iw n17, iw n18, iw n19, iw n20, sw a21 k22 k23] /\ Q
 (Value.agg #[.bool b14, .bool b15, .bool b16, iw n17, iw n18, iw n19, iw n20, sw a21 k22 k23]) H12) /\ ((!b13) = false -> ∃ (R24 : Rl) (M25 : Mu), R24 [iw 0] H12 /\ ∀ (n26 : Int) (H27 : PHeap), R24 [iw n26] H27 ->
 (decide (n26 < (k8 : Int)) = true -> Ob (a7 ≠ none /\ 0 ≤ n26 /\ n26 < (k8 : Int)) /\ ∃ n28 n29 n30 n31 s32 n33 n34 n35 n36 n37 a38 k39 k40 a41 k42 k43 a44 k45 k46, Reads H27 (elemA a7 n26 13)
 [iw n28, iw n29, iw n30, iw n31, .string s32, iw n33, iw n34, iw n35, iw n36, iw n37, sw a38 k39 k40, sw a41 k42 k43, sw a44 k45 k46] /\ Triple prog 158 #[Value.agg
 #[iw n28, iw n29, iw n30, iw n31, .string s32, iw n33, iw n34, iw n35, iw n36, iw n37, sw a38 k39 k40, sw a41 k42 k43, sw a44 k45 k46]] H27 fun v47 H48 => ∃ b49 n50 n51 n52 b53,
 v47 = .tuple #[.agg #[.bool b49, iw n50, iw n51, iw n52], .bool b53] /\ (b53 = true -> Ob (at0 k10 ≠ none) /\ ∃ n54, Reads H48 (fldA (at0 k10) 6) [iw n54] /\ (decide (n35 > n54) = true -> ∃ H55, Vx.Sub H55 H48 /\
 Ob (at0 k10 ≠ none) /\ ∃ H56, Writes H48 H56 (fldA (at0 k10) 6) [iw n35] /\ Vx.Sub H55 H56 /\ Ob (at0 k10 ≠ none) /\ ∃ H57, Writes H56 H57 (fldA (at0 k10) 2) [.bool b49, iw n50, iw n51, iw n52] /\
 R24 [iw (IntKind.i64.wrap (n26 + 1))] H57 /\ Less (M25 [iw (IntKind.i64.wrap (n26 + 1))] H57) (M25 [iw n26] H27)) /\ (decide (n35 > n54) = false -> R24 [iw (IntKind.i64.wrap (n26 + 1))] H48 /\
 Less (M25 [iw (IntKind.i64.wrap (n26 + 1))] H48) (M25 [iw n26] H27))) /\ (b53 = !true -> R24 [iw (IntKind.i64.wrap (n26 + 1))] H48 /\ Less (M25 [iw (IntKind.i64.wrap (n26 + 1))] H48) (M25 [iw n26] H27))) /\
 (decide (n26 < (k8 : Int)) = false -> ∃ H58, Vx.Sub H58 H27 /\ ∀ (k59 : Nat), H27 k59 = none -> Vx.Sub H58 (H27.upd k59 (Obj.cells #[Value.func (Fn.func 161) #[] #[]] 91)) /\
 Triple prog 160 #[sw a7 k8 k9, sw (at0 k59) 1 1] (H27.upd k59 (Obj.cells #[Value.func (Fn.func 161) #[] #[]] 91)) fun v60 H61 => ∃ n62, v60 = iw n62 /\ Vx.Sub H58 H61 /\ Triple prog 124 #[Value.agg
 #[iw n1, iw n2, iw n3, iw n4, iw n5, iw n6]] H61 fun v63 H64 => ∃ n65, v63 = iw n65 /\ Ob (at0 k10 ≠ none) /\ ∃ H66, Writes H64 H66 (fldA (at0 k10) 0) [.bool (decide (n62 ≥ n65))] /\ ∃ H67, Vx.Sub H67 H66 /\
 ∀ (k68 : Nat), H66 k68 = none -> Vx.Sub H67 (H66.upd k68 (Obj.cells #[Value.func (Fn.func 162) #[] #[]] 91)) /\ Triple prog 160 #[sw a7 k8 k9, sw (at0 k68) 1 1]
 (H66.upd k68 (Obj.cells #[Value.func (Fn.func 162) #[] #[]] 91)) fun v69 H70 => ∃ n71, v69 = iw n71 /\ Vx.Sub H67 H70 /\ ((n71 == 0) = true -> Ob (at0 k10 ≠ none) /\ ∃ n72, Reads H67 (fldA (at0 k10) 6) [iw n72] /\
 ((n72 == 0) = false -> ∀ (k73 : Nat), H70 k73 = none -> Vx.Sub H67 (H70.upd k73 (Obj.cells #[Value.func (Fn.func 163) #[] #[], Value.func (Fn.func 159) #[] #[.pointer (at0 k10)]] 91)) /\
 Triple prog 160 #[sw a7 k8 k9, sw (at0 k73) 2 2] (H70.upd k73 (Obj.cells #[Value.func (Fn.func 163) #[] #[], Value.func (Fn.func 159) #[] #[.pointer (at0 k10)]] 91)) fun v74 H75 => ∃ n76, v74 = iw n76 /\
 Vx.Sub H67 H75 /\ Ob (at0 k10 ≠ none) /\ ∃ H77, Writes H75 H77 (fldA (at0 k10) 1) [.bool (decide (n76 ≥ n4))] /\ ∃ (R78 : Rl) (M79 : Mu), R78 [iw 0] H77 /\ ∀ (n80 : Int) (H81 : PHeap), R78 [iw n80] H81 ->
 (decide (n80 < (k8 : Int)) = true -> Ob (a7 ≠ none /\ 0 ≤ n80 /\ n80 < (k8 : Int)) /\ ∃ n82 n83 n84 n85 s86 n87 n88 n89 n90 n91 a92 k93 k94 a95 k96 k97 a98 k99 k100, Reads H81 (elemA a7 n80 13) [iw n82, iw n83,
 iw n84, iw n85, .string s86, iw n87, iw n88, iw n89, iw n90, iw n91, sw a92 k93 k94, sw a95 k96 k97, sw a98 k99 k100] /\ ((n82 == 14) = true -> ∀ (k101 : Nat), H81 k101 = none -> Ob (at0 k10 ≠ none) /\
 ∃ b102 n103 n104 n105, Reads (H81.upd k101 (Obj.cells #[iw n82, iw n83, iw n84, iw n85, .string s86, iw n87, iw n88, iw n89, iw n90, iw n91, sw a92 k93 k94, sw a95 k96 k97, sw a98 k99 k100] 52)) (fldA (at0 k10) 2)
 [.bool b102, iw n103, iw n104, iw n105] /\ Triple prog 164 #[sw (at0 k101) 1 1, Value.agg #[.bool b102, iw n103, iw n104, iw n105]] (H81.upd k101 (Obj.cells #[iw n82, iw n83, iw n84, iw n85, .string s86, iw n87,
 iw n88, iw n89, iw n90, iw n91, sw a92 k93 k94, sw a95 k96 k97, sw a98 k99 k100] 52)) fun v106 H107 => ∃ a108 k109 k110, v106 = sw a108 k109 k110 /\ Ob (at0 k10 ≠ none) /\ ∃ a111 k112 k113, Reads H107
 (fldA (at0 k10) 7) [sw a111 k112 k113] /\ EvV prog (Builtin.append_ #[42, 42] 42 #[sw a111 k112 k113, sw a108 k109 k110]) H107 fun v114 H115 => ∃ a116 k117 k118, v114 = sw a116 k117 k118 /\ Ob (at0 k10 ≠ none) /\
 ∃ H119, Writes H115 H119 (fldA (at0 k10) 7) [sw a116 k117 k118] /\ R78 [Value.int IntKind.i64 (IntKind.i64.wrap (n80 + 1))] H119 /\ Less (M79 [Value.int IntKind.i64 (IntKind.i64.wrap (n80 + 1))] H119) (M79 [iw n80]
 H81)) /\ ((n82 == 14) = false -> R78 [iw (IntKind.i64.wrap (n80 + 1))] H81 /\ Less (M79 [iw (IntKind.i64.wrap (n80 + 1))] H81) (M79 [iw n80] H81))) /\ (decide (n80 < (k8 : Int)) = false ->
 ∃ b120 b121 b122 n123 n124 n125 n126 a127 k128 k129, Reads H81 (at0 k10) [.bool b120, .bool b121, .bool b122, iw n123, iw n124, iw n125, iw n126, sw a127 k128 k129] /\ Q (Value.agg #[.bool b120, .bool b121, .bool b122,
 iw n123, iw n124, iw n125, iw n126, sw a127 k128 k129]) H81)) /\ ((n72 == 0) = !false -> Ob (at0 k10 ≠ none) /\ ∃ H130, Writes H70 H130 (fldA (at0 k10) 1) [.bool true] /\ ∃ (R131 : Rl) (M132 : Mu), R131 [iw 0] H130 /\
 ∀ (n133 : Int) (H134 : PHeap), R131 [iw n133] H134 -> (decide (n133 < (k8 : Int)) = true -> Ob (a7 ≠ none /\ 0 ≤ n133 /\ n133 < (k8 : Int)) /\
 ∃ n135 n136 n137 n138 s139 n140 n141 n142 n143 n144 a145 k146 k147 a148 k149 k150 a151 k152 k153, Reads H134 (elemA a7 n133 13) [iw n135, iw n136, iw n137, iw n138, .string s139, iw n140, iw n141, iw n142, iw n143,
 iw n144, sw a145 k146 k147, sw a148 k149 k150, sw a151 k152 k153] /\ ((n135 == 14) = true -> ∀ (k154 : Nat), H134 k154 = none -> Ob (at0 k10 ≠ none) /\ ∃ b155 n156 n157 n158, Reads (H134.upd k154 (Obj.cells
 #[iw n135, iw n136, iw n137, iw n138, .string s139, iw n140, iw n141, iw n142, iw n143, iw n144, sw a145 k146 k147, sw a148 k149 k150, sw a151 k152 k153] 52)) (fldA (at0 k10) 2) [.bool b155, iw n156,
 iw n157, iw n158] /\ Triple prog 164 #[sw (at0 k154) 1 1, Value.agg #[.bool b155, iw n156, iw n157, iw n158]] (H134.upd k154 (Obj.cells #[iw n135, iw n136, iw n137, iw n138, .string s139, iw n140, iw n141, iw n142,
 iw n143, iw n144, sw a145 k146 k147, sw a148 k149 k150, sw a151 k152 k153] 52)) fun v159 H160 => ∃ a161 k162 k163, v159 = sw a161 k162 k163 /\ Ob (at0 k10 ≠ none) /\ ∃ a164 k165 k166, Reads H160 (fldA (at0 k10) 7)
 [sw a164 k165 k166] /\ EvV prog (Builtin.append_ #[42, 42] 42 #[sw a164 k165 k166, sw a161 k162 k163]) H160 fun v167 H168 => ∃ a169 k170 k171, v167 = sw a169 k170 k171 /\ Ob (at0 k10 ≠ none) /\ ∃ H172, Writes H168 H172
 (fldA (at0 k10) 7) [sw a169 k170 k171] /\ R131 [Value.int IntKind.i64 (IntKind.i64.wrap (n133 + 1))] H172 /\ Less (M132 [Value.int IntKind.i64 (IntKind.i64.wrap (n133 + 1))] H172) (M132 [iw n133] H134)) /\
 ((n135 == 14) = false -> R131 [iw (IntKind.i64.wrap (n133 + 1))] H134 /\ Less (M132 [iw (IntKind.i64.wrap (n133 + 1))] H134) (M132 [iw n133] H134))) /\ (decide (n133 < (k8 : Int)) = false ->
 ∃ b173 b174 b175 n176 n177 n178 n179 a180 k181 k182, Reads H134 (at0 k10) [.bool b173, .bool b174, .bool b175, iw n176, iw n177, iw n178, iw n179, sw a180 k181 k182] /\ Q (Value.agg
 #[.bool b173, .bool b174, .bool b175, iw n176, iw n177, iw n178, iw n179, sw a180 k181 k182]) H134))) /\ ((n71 == 0) = !true -> Ob (at0 k10 ≠ none) /\ ∃ H183, Writes H70 H183 (fldA (at0 k10) 1) [.bool false] /\
 ∃ (R184 : Rl) (M185 : Mu), R184 [iw 0] H183 /\ ∀ (n186 : Int) (H187 : PHeap), R184 [iw n186] H187 -> (decide (n186 < (k8 : Int)) = true -> Ob (a7 ≠ none /\ 0 ≤ n186 /\ n186 < (k8 : Int)) /\
 ∃ n188 n189 n190 n191 s192 n193 n194 n195 n196 n197 a198 k199 k200 a201 k202 k203 a204 k205 k206, Reads H187 (elemA a7 n186 13) [iw n188, iw n189, iw n190, iw n191, .string s192, iw n193, iw n194, iw n195, iw n196,
 iw n197, sw a198 k199 k200, sw a201 k202 k203, sw a204 k205 k206] /\ ((n188 == 14) = true -> ∀ (k207 : Nat), H187 k207 = none -> Ob (at0 k10 ≠ none) /\ ∃ b208 n209 n210 n211, Reads (H187.upd k207 (Obj.cells
 #[iw n188, iw n189, iw n190, iw n191, .string s192, iw n193, iw n194, iw n195, iw n196, iw n197, sw a198 k199 k200, sw a201 k202 k203, sw a204 k205 k206] 52)) (fldA (at0 k10) 2) [.bool b208, iw n209, iw n210,
 iw n211] /\ Triple prog 164 #[sw (at0 k207) 1 1, Value.agg #[.bool b208, iw n209, iw n210, iw n211]] (H187.upd k207 (Obj.cells #[iw n188, iw n189, iw n190, iw n191, .string s192, iw n193, iw n194, iw n195, iw n196,
 iw n197, sw a198 k199 k200, sw a201 k202 k203, sw a204 k205 k206] 52)) fun v212 H213 => ∃ a214 k215 k216, v212 = sw a214 k215 k216 /\ Ob (at0 k10 ≠ none) /\ ∃ a217 k218 k219, Reads H213 (fldA (at0 k10) 7)
 [sw a217 k218 k219] /\ EvV prog (Builtin.append_ #[42, 42] 42 #[sw a217 k218 k219, sw a214 k215 k216]) H213 fun v220 H221 => ∃ a222 k223 k224, v220 = sw a222 k223 k224 /\ Ob (at0 k10 ≠ none) /\ ∃ H225,
 Writes H221 H225 (fldA (at0 k10) 7) [sw a222 k223 k224] /\ R184 [iw (IntKind.i64.wrap (n186 + 1))] H225 /\ Less (M185 [iw (IntKind.i64.wrap (n186 + 1))] H225) (M185 [iw n186] H187)) /\ ((n188 == 14) = false ->
 R184 [iw (IntKind.i64.wrap (n186 + 1))] H187 /\ Less (M185 [iw (IntKind.i64.wrap (n186 + 1))] H187) (M185 [iw n186] H187))) /\ (decide (n186 < (k8 : Int)) = false -> ∃ b226 b227 b228 n229 n230 n231 n232 a233 k234 k235,
 Reads H187 (at0 k10) [.bool b226, .bool b227, .bool b228, iw n229, iw n230, iw n231, iw n232, sw a233 k234 k235] /\ Q (Value.agg #[.bool b226, .bool b227, .bool b228, iw n229, iw n230, iw n231, iw n232,
 sw a233 k234 k235]) H187))))) : Triple prog 135 ([.agg #[iw n1, iw n2, iw n3, iw n4, iw n5, iw n6], sw a7 k8 k9]).toArray H Q := Triple.of_vc sSettle.cx (by kernel_rfl) h
theorem sSettle1.vc (n1 n2 n3 n4 : Int) (s5 : ByteArray) (n6 n7 n8 n9 n10 : Int) (a11 : Option Addr) (k12 k13 : Nat) (a14 : Option Addr) (k15 k16 : Nat) (a17 : Option Addr) (k18 k19 : Nat) (a20 : Option Addr) (H : PHeap) (Q : Value -> PHeap -> Prop)
 (h : Ob (a20 ≠ none) /\ ∃ n21, Reads H (fldA a20 6) [iw n21] /\ Q (.bool (n8 == n21)) H) : Triple prog 159 ([Value.agg #[iw n1, iw n2, iw n3, iw n4, .string s5, iw n6, iw n7,
 iw n8, iw n9, iw n10, sw a11 k12 k13, sw a14 k15 k16, sw a17 k18 k19], .pointer a20]).toArray H Q := Triple.of_vc sSettle1.cx (by kernel_rfl) h
theorem sValue.vc (n1 n2 n3 n4 : Int) (s5 : ByteArray) (n6 n7 n8 n9 n10 : Int) (a11 : Option Addr) (k12 k13 : Nat) (a14 : Option Addr) (k15 k16 : Nat) (a17 : Option Addr) (k18 k19 : Nat) (H : PHeap) (Q : Value -> PHeap -> Prop)
 (h : ((n1 != 14) = true -> Q (.tuple #[.agg #[.bool false, iw 0, iw 0, iw 0], .bool false]) H) /\ ((n1 != 14) = false -> Triple prog 181 #[Value.agg
 #[iw n10, .string ({ data := #[] } : ByteArray), iw n6, iw n7, iw 0, iw n9, sw none 0 0]] H fun v20 H21 => ∃ b22 n23 n24 n25 b26, v20 = .tuple #[.agg #[.bool b22, iw n23, iw n24, iw n25], .bool b26] /\
 Q (.tuple #[.agg #[.bool b22, iw n23, iw n24, iw n25], .bool b26]) H21)) : Triple prog 158 ([Value.agg #[iw n1, iw n2, iw n3, iw n4, .string s5, iw n6, iw n7,
 iw n8, iw n9, iw n10, sw a11 k12 k13, sw a14 k15 k16, sw a17 k18 k19]]).toArray H Q := Triple.of_vc sValue.cx (by kernel_rfl) h
theorem sCount.vc (a1 : Option Addr) (k2 k3 : Nat) (a4 : Option Addr) (k5 k6 : Nat) (H : PHeap) (Q : Value -> PHeap -> Prop)
 (h : ∃ (R7 : Rl) (M8 : Mu), R7 [iw 0, iw 0] H /\ ∀ (n9 n10 : Int) (H11 : PHeap), R7 [iw n9, iw n10] H11 -> (decide (n10 < (k2 : Int)) = true -> Ob (a1 ≠ none /\ 0 ≤ n10 /\ n10 < (k2 : Int)) /\
 ∃ n12 n13 n14 n15 s16 n17 n18 n19 n20 n21 a22 k23 k24 a25 k26 k27 a28 k29 k30, Reads H11 (elemA a1 n10 13) [iw n12, iw n13, iw n14, iw n15, .string s16, iw n17, iw n18,
 iw n19, iw n20, iw n21, sw a22 k23 k24, sw a25 k26 k27, sw a28 k29 k30] /\ ∃ (R31 : Rl) (M32 : Mu), R31 [iw 0] H11 /\ ∀ (n33 : Int) (H34 : PHeap), R31 [iw n33] H34 -> (decide (n33 < (k5 : Int)) = true ->
 Ob (a4 ≠ none /\ 0 ≤ n33 /\ n33 < (k5 : Int)) /\ ∃ v35, Reads H34 (elemA a4 n33 1) [v35] /\ CallY prog v35 #[Value.agg #[iw n12, iw n13, iw n14, iw n15, .string s16, iw n17,
 iw n18, iw n19, iw n20, iw n21, sw a22 k23 k24, sw a25 k26 k27, sw a28 k29 k30]] H34 fun v36 H37 => ∃ b38, v36 = .bool b38 /\ ((!b38) = true -> R7 [iw n9, iw (IntKind.i64.wrap (n10 + 1))] H37 /\
 Less (M8 [iw n9, iw (IntKind.i64.wrap (n10 + 1))] H37) (M8 [iw n9, iw n10] H11)) /\ ((!b38) = false -> R31 [iw (IntKind.i64.wrap (n33 + 1))] H37 /\
 Less (M32 [iw (IntKind.i64.wrap (n33 + 1))] H37) (M32 [iw n33] H34))) /\ (decide (n33 < (k5 : Int)) = false -> R7 [iw (IntKind.i64.wrap (n9 + 1)), iw (IntKind.i64.wrap (n10 + 1))] H34 /\
 Less (M8 [iw (IntKind.i64.wrap (n9 + 1)), iw (IntKind.i64.wrap (n10 + 1))] H34) (M8 [iw n9, iw n10] H11))) /\ (decide (n10 < (k2 : Int)) = false -> Q (iw n9) H11)) :
 Triple prog 160 ([sw a1 k2 k3, sw a4 k5 k6]).toArray H Q := Triple.of_vc sCount.cx (by kernel_rfl) h
theorem sSound.vc (n1 n2 n3 n4 : Int) (s5 : ByteArray) (n6 n7 n8 n9 n10 : Int) (a11 : Option Addr) (k12 k13 : Nat) (a14 : Option Addr) (k15 k16 : Nat) (a17 : Option Addr) (k18 k19 : Nat) (H : PHeap) (Q : Value -> PHeap -> Prop)
 (h : ((n1 == 14) = true -> Triple prog 182 #[Value.agg #[iw n1, iw n2, iw n3, iw n4, .string s5, iw n6, iw n7, iw n8, iw n9, iw n10, sw a11 k12 k13, sw a14 k15 k16, sw a17 k18 k19], iw 2]
 H fun v20 H21 => ∃ n22, v20 = iw n22 /\ Q (.bool (n22 == 1)) H21) /\ ((n1 == 14) = !true -> Q (.bool false) H)) : Triple prog 161 ([Value.agg #[iw n1, iw n2, iw n3, iw n4, .string s5, iw n6, iw n7,
 iw n8, iw n9, iw n10, sw a11 k12 k13, sw a14 k15 k16, sw a17 k18 k19]]).toArray H Q := Triple.of_vc sSound.cx (by kernel_rfl) h
theorem sLeft.vc (n1 n2 n3 n4 : Int) (s5 : ByteArray) (n6 n7 n8 n9 n10 : Int) (a11 : Option Addr) (k12 k13 : Nat) (a14 : Option Addr) (k15 k16 : Nat) (a17 : Option Addr) (k18 k19 : Nat) (H : PHeap) (Q : Value -> PHeap -> Prop)
 (h : ((n1 == 14) = true -> Triple prog 182 #[Value.agg #[iw n1, iw n2, iw n3, iw n4, .string s5, iw n6, iw n7, iw n8, iw n9, iw n10, sw a11 k12 k13, sw a14 k15 k16, sw a17 k18 k19], iw 0] H fun v20 H21 => ∃ n22,
 v20 = iw n22 /\ ((n22 != 0) = false -> Triple prog 182 #[Value.agg #[iw n1, iw n2, iw n3, iw n4, .string s5, iw n6, iw n7, iw n8, iw n9, iw n10, sw a11 k12 k13, sw a14 k15 k16, sw a17 k18 k19], iw 1]
 H21 fun v23 H24 => ∃ n25, v23 = iw n25 /\ Q (.bool (n25 != 0)) H24) /\ ((n22 != 0) = !false -> Q (.bool true) H21)) /\ ((n1 == 14) = !true -> Q (.bool false) H)) : Triple prog 162 ([Value.agg
 #[iw n1, iw n2, iw n3, iw n4, .string s5, iw n6, iw n7, iw n8, iw n9, iw n10, sw a11 k12 k13, sw a14 k15 k16, sw a17 k18 k19]]).toArray H Q := Triple.of_vc sLeft.cx (by kernel_rfl) h
theorem sMarked.vc (n1 n2 n3 n4 : Int) (s5 : ByteArray) (n6 n7 n8 n9 n10 : Int) (a11 : Option Addr) (k12 k13 : Nat) (a14 : Option Addr) (k15 k16 : Nat) (a17 : Option Addr) (k18 k19 : Nat) (H : PHeap) (Q : Value -> PHeap -> Prop)
 (h : Triple prog 158 #[Value.agg #[iw n1, iw n2, iw n3, iw n4, .string s5, iw n6, iw n7, iw n8, iw n9, iw n10, sw a11 k12 k13, sw a14 k15 k16, sw a17 k18 k19]] H fun v20 H21 =>
 ∃ b22 n23 n24 n25 b26, v20 = .tuple #[.agg #[.bool b22, iw n23, iw n24, iw n25], .bool b26] /\ Q (.bool b26) H21) : Triple prog 163 ([Value.agg #[iw n1, iw n2, iw n3, iw n4, .string s5, iw n6, iw n7,
 iw n8, iw n9, iw n10, sw a11 k12 k13, sw a14 k15 k16, sw a17 k18 k19]]).toArray H Q := Triple.of_vc sMarked.cx (by kernel_rfl) h
theorem sHold.vc (a1 : Option Addr) (k2 k3 : Nat) (b4 : Bool) (n5 n6 n7 : Int) (H : PHeap) (Q : Value -> PHeap -> Prop)
 (h : ∃ (R8 : Rl) (M9 : Mu), R8 [sw none 0 0, iw 0] H /\ ∀ (a10 : Option Addr) (k11 k12 : Nat) (n13 : Int) (H14 : PHeap), R8 [sw a10 k11 k12, iw n13] H14 -> (decide (n13 < (k2 : Int)) = true ->
 Ob (a1 ≠ none /\ 0 ≤ n13 /\ n13 < (k2 : Int)) /\ ∃ n15 n16 n17 n18 s19 n20 n21 n22 n23 n24 a25 k26 k27 a28 k29 k30 a31 k32 k33, Reads H14 (elemA a1 n13 13) [iw n15, iw n16, iw n17, iw n18, .string s19, iw n20, iw n21,
 iw n22, iw n23, iw n24, sw a25 k26 k27, sw a28 k29 k30, sw a31 k32 k33] /\ ((bif b4 then bif n24 == 2 then bif n20 == n5 then n21 == n6 else false else false else false) = true -> ∀ (k34 : Nat), H14 k34 = none ->
 EvV prog (Builtin.append_ #[42, 42] 42 #[sw a10 k11 k12, sw (at0 k34) 1 1]) (H14.upd k34 (Obj.cells #[iw n16] 3)) fun v35 H36 => ∃ a37 k38 k39, v35 = sw a37 k38 k39 /\
 R8 [sw a37 k38 k39, iw (IntKind.i64.wrap (n13 + 1))] H36 /\ Less (M9 [sw a37 k38 k39, iw (IntKind.i64.wrap (n13 + 1))] H36) (M9 [sw a10 k11 k12, iw n13] H14)) /\
 ((bif b4 then bif n24 == 2 then bif n20 == n5 then n21 == n6 else false else false else false) = false -> R8 [sw a10 k11 k12, iw (IntKind.i64.wrap (n13 + 1))] H14 /\
 Less (M9 [sw a10 k11 k12, iw (IntKind.i64.wrap (n13 + 1))] H14) (M9 [sw a10 k11 k12, iw n13] H14))) /\ (decide (n13 < (k2 : Int)) = false -> Q (sw a10 k11 k12) H14)) :
 Triple prog 164 ([sw a1 k2 k3, .agg #[.bool b4, iw n5, iw n6, iw n7]]).toArray H Q := Triple.of_vc sHold.cx (by kernel_rfl) h
theorem sWho.vc (n1 n2 n3 n4 : Int) (s5 : ByteArray) (n6 n7 n8 n9 n10 : Int) (a11 : Option Addr) (k12 k13 : Nat) (a14 : Option Addr) (k15 k16 : Nat) (a17 : Option Addr) (k18 k19 : Nat) (n20 : Int) (H : PHeap) (Q : Value -> PHeap -> Prop)
 (h : (decide (n20 < (k12 : Int)) = true -> Ob (a11 ≠ none /\ 0 ≤ n20 /\ n20 < (k12 : Int)) /\ ∃ n21, Reads H (elemA a11 n20 1) [iw n21] /\ Q (iw n21) H) /\ (decide (n20 < (k12 : Int)) = false -> Q (iw 0) H)) :
 Triple prog 182 ([Value.agg #[iw n1, iw n2, iw n3, iw n4, .string s5, iw n6, iw n7, iw n8, iw n9, iw n10, sw a11 k12 k13, sw a14 k15 k16, sw a17 k18 k19], iw n20]).toArray H Q := Triple.of_vc sWho.cx (by kernel_rfl) h
theorem fixOf.vc (n1 : Int) (s2 : ByteArray) (n3 n4 n5 n6 : Int) (a7 : Option Addr) (k8 k9 : Nat) (H : PHeap) (Q : Value -> PHeap -> Prop)
 (h : ((bif n1 == 2 then true else n1 == 3) = true -> Q (.tuple #[.agg #[.bool true, iw n3, iw n4, iw n6], .bool true]) H) /\ ((bif n1 == 2 then true else n1 == 3) = false ->
 ((n1 == 4) = true -> Q (.tuple #[.agg #[.bool false, iw 0, iw 0, iw 0], .bool true]) H) /\ ((n1 == 4) = false -> Q (.tuple #[.agg #[.bool false, iw 0, iw 0, iw 0], .bool false]) H))) :
 Triple prog 181 ([.agg #[iw n1, .string s2, iw n3, iw n4, iw n5, iw n6, sw a7 k8 k9]]).toArray H Q := Triple.of_vc fixOf.cx (by kernel_rfl) h
theorem rSettle.vc (n1 n2 n3 n4 n5 n6 : Int) (a7 : Option Addr) (k8 k9 : Nat) (H : PHeap) (Q : Value -> PHeap -> Prop)
 (h : ∀ (k10 : Nat), H k10 = none -> ∃ H11, Writes (H.upd k10 (Obj.cells #[.bool false, .bool false, .bool false, iw 0, iw 0, iw 0, iw 0, sw none 0 0] 146)) H11 (at0 k10)
 [.bool false, .bool false, .bool false, iw 0, iw 0, iw 0, iw 0, sw none 0 0] /\ Triple prog 16 #[.agg #[iw n1, iw n2, iw n3, iw n4, iw n5, iw n6]] H11 fun v12 H13 => ∃ b14, v12 = .bool b14 /\ ((!b14) = true ->
 ∃ b15 b16 b17 n18 n19 n20 n21 a22 k23 k24, Reads H13 (at0 k10) [.bool b15, .bool b16, .bool b17, iw n18, iw n19, iw n20, iw n21, sw a22 k23 k24] /\ Q (Value.agg
 #[.bool b15, .bool b16, .bool b17, iw n18, iw n19, iw n20, iw n21, sw a22 k23 k24]) H13) /\ ((!b14) = false -> ∃ (R25 : Rl) (M26 : Mu), R25 [iw 0] H13 /\ ∀ (n27 : Int) (H28 : PHeap), R25 [iw n27] H28 ->
 (decide (n27 < (k8 : Int)) = true -> ∃ H29, Vx.Sub H29 H28 /\ Ob (a7 ≠ none /\ 0 ≤ n27 /\ n27 < (k8 : Int)) /\ ∃ n30 n31 n32 n33 s34 n35 n36 n37 n38 n39 a40 k41 k42 a43 k44 k45 a46 k47 k48, Reads H29 (elemA a7 n27 13)
 [iw n30, iw n31, iw n32, iw n33, .string s34, iw n35, iw n36, iw n37, iw n38, iw n39, sw a40 k41 k42, sw a43 k44 k45, sw a46 k47 k48] /\ Triple prog 143 #[Value.agg
 #[iw n30, iw n31, iw n32, iw n33, .string s34, iw n35, iw n36, iw n37, iw n38, iw n39, sw a40 k41 k42, sw a43 k44 k45, sw a46 k47 k48]] H28 fun v49 H50 => ∃ b51, v49 = .bool b51 /\ Vx.Sub H29 H50 /\ ((!b51) = false ->
 Ob (a7 ≠ none /\ 0 ≤ n27 /\ n27 < (k8 : Int)) /\ Ob (elemA a7 n27 13 ≠ none) /\ ∃ n52, Reads H29 (fldA (elemA a7 n27 13) 7) [iw n52] /\ Ob (at0 k10 ≠ none) /\ ∃ n53, Reads H29 (fldA (at0 k10) 6) [iw n53] /\
 (decide (n52 ≤ n53) = true -> R25 [iw (IntKind.i64.wrap (n27 + 1))] H50 /\ Less (M26 [iw (IntKind.i64.wrap (n27 + 1))] H50) (M26 [iw n27] H28)) /\ (decide (n52 ≤ n53) = false ->
 Ob (a7 ≠ none /\ 0 ≤ n27 /\ n27 < (k8 : Int)) /\ Ob (elemA a7 n27 13 ≠ none) /\ ∃ n54, Reads H50 (fldA (elemA a7 n27 13) 7) [iw n54] /\ Ob (at0 k10 ≠ none) /\ ∃ H55, Writes H50 H55 (fldA (at0 k10) 6) [iw n54] /\
 Ob (at0 k10 ≠ none) /\ ∃ H56, Writes H55 H56 (fldA (at0 k10) 2) [.bool false, iw 0, iw 0, iw 0] /\ Ob (a7 ≠ none /\ 0 ≤ n27 /\ n27 < (k8 : Int)) /\ Ob (elemA a7 n27 13 ≠ none) /\ ∃ n57,
 Reads H56 (fldA (elemA a7 n27 13) 9) [iw n57] /\ ((n57 != 4) = true -> ∃ H58, Vx.Sub H58 H56 /\ Ob (a7 ≠ none /\ 0 ≤ n27 /\ n27 < (k8 : Int)) /\ Ob (elemA a7 n27 13 ≠ none) /\ ∃ n59,
 Reads H58 (fldA (elemA a7 n27 13) 5) [iw n59] /\ Ob (a7 ≠ none /\ 0 ≤ n27 /\ n27 < (k8 : Int)) /\ Ob (elemA a7 n27 13 ≠ none) /\ ∃ n60, Reads H58 (fldA (elemA a7 n27 13) 6) [iw n60] /\
 Ob (a7 ≠ none /\ 0 ≤ n27 /\ n27 < (k8 : Int)) /\ Ob (elemA a7 n27 13 ≠ none) /\ ∃ n61, Reads H58 (fldA (elemA a7 n27 13) 8) [iw n61] /\ Ob (at0 k10 ≠ none) /\ ∃ H62, Writes H56 H62 (fldA (at0 k10) 2)
 [.bool true, iw n59, iw n60, iw n61] /\ R25 [iw (IntKind.i64.wrap (n27 + 1))] H62 /\ Less (M26 [iw (IntKind.i64.wrap (n27 + 1))] H62) (M26 [iw n27] H28)) /\ ((n57 != 4) = false ->
 R25 [iw (IntKind.i64.wrap (n27 + 1))] H56 /\ Less (M26 [iw (IntKind.i64.wrap (n27 + 1))] H56) (M26 [iw n27] H28)))) /\ ((!b51) = !false -> R25 [iw (IntKind.i64.wrap (n27 + 1))] H50 /\
 Less (M26 [iw (IntKind.i64.wrap (n27 + 1))] H50) (M26 [iw n27] H28))) /\ (decide (n27 < (k8 : Int)) = false -> ∃ (R63 : Rl) (M64 : Mu), R63 [iw 0, iw 0, iw 0, iw 0] H28 /\ ∀ (n65 n66 n67 n68 : Int) (H69 : PHeap),
 R63 [iw n65, iw n66, iw n67, iw n68] H69 -> (decide (n68 < (k8 : Int)) = true -> Ob (a7 ≠ none /\ 0 ≤ n68 /\ n68 < (k8 : Int)) /\ Ob (elemA a7 n68 13 ≠ none) /\ ∃ n70, Reads H69 (fldA (elemA a7 n68 13) 0) [iw n70] /\
 ((n70 != 14) = true -> R63 [iw n65, iw n66, iw n67, iw (IntKind.i64.wrap (n68 + 1))] H69 /\ Less (M64 [iw n65, iw n66, iw n67, iw (IntKind.i64.wrap (n68 + 1))] H69) (M64 [iw n65, iw n66, iw n67, iw n68] H69)) /\
 ((n70 != 14) = false -> Ob (a7 ≠ none /\ 0 ≤ n68 /\ n68 < (k8 : Int)) /\ ∃ n71 n72 n73 n74 s75 n76 n77 n78 n79 n80 a81 k82 k83 a84 k85 k86 a87 k88 k89, Reads H69 (elemA a7 n68 13)
 [iw n71, iw n72, iw n73, iw n74, .string s75, iw n76, iw n77, iw n78, iw n79, iw n80, sw a81 k82 k83, sw a84 k85 k86, sw a87 k88 k89] /\ Triple prog 114 #[Value.agg #[iw n71, iw n72, iw n73, iw n74, .string s75,
 iw n76, iw n77, iw n78, iw n79, iw n80, sw a81 k82 k83, sw a84 k85 k86, sw a87 k88 k89], iw 2] H69 fun v90 H91 => ∃ n92, v90 = iw n92 /\ Ob (a7 ≠ none /\ 0 ≤ n68 /\ n68 < (k8 : Int)) /\
 ∃ n93 n94 n95 n96 s97 n98 n99 n100 n101 n102 a103 k104 k105 a106 k107 k108 a109 k110 k111, Reads H91 (elemA a7 n68 13) [iw n93, iw n94, iw n95, iw n96, .string s97, iw n98, iw n99, iw n100, iw n101,
 iw n102, sw a103 k104 k105, sw a106 k107 k108, sw a109 k110 k111] /\ Triple prog 114 #[Value.agg #[iw n93, iw n94, iw n95, iw n96, .string s97, iw n98, iw n99, iw n100,
 iw n101, iw n102, sw a103 k104 k105, sw a106 k107 k108, sw a109 k110 k111], iw 0] H91 fun v112 H113 => ∃ n114, v112 = iw n114 /\ ((n114 != 0) = false -> Ob (a7 ≠ none /\ 0 ≤ n68 /\ n68 < (k8 : Int)) /\
 ∃ n115 n116 n117 n118 s119 n120 n121 n122 n123 n124 a125 k126 k127 a128 k129 k130 a131 k132 k133, Reads H113 (elemA a7 n68 13) [iw n115, iw n116, iw n117, iw n118, .string s119, iw n120, iw n121,
 iw n122, iw n123, iw n124, sw a125 k126 k127, sw a128 k129 k130, sw a131 k132 k133] /\ Triple prog 114 #[Value.agg #[iw n115, iw n116, iw n117, iw n118, .string s119, iw n120, iw n121, iw n122, iw n123, iw n124,
 sw a125 k126 k127, sw a128 k129 k130, sw a131 k132 k133], iw 1] H113 fun v134 H135 => ∃ n136, v134 = iw n136 /\ ∃ H137, Vx.Sub H137 H135 /\ Ob (a7 ≠ none /\ 0 ≤ n68 /\ n68 < (k8 : Int)) /\
 ∃ n138 n139 n140 n141 s142 n143 n144 n145 n146 n147 a148 k149 k150 a151 k152 k153 a154 k155 k156, Reads H137 (elemA a7 n68 13) [iw n138, iw n139, iw n140, iw n141, .string s142, iw n143, iw n144, iw n145, iw n146,
 iw n147, sw a148 k149 k150, sw a151 k152 k153, sw a154 k155 k156] /\ Triple prog 143 #[Value.agg #[iw n138, iw n139, iw n140, iw n141, .string s142, iw n143, iw n144, iw n145, iw n146,
 iw n147, sw a148 k149 k150, sw a151 k152 k153, sw a154 k155 k156]] H135 fun v157 H158 => ∃ b159, v157 = .bool b159 /\ Vx.Sub H137 H158 /\ (b159 = true -> Ob (a7 ≠ none /\ 0 ≤ n68 /\ n68 < (k8 : Int)) /\
 Ob (elemA a7 n68 13 ≠ none) /\ ∃ n160, Reads H137 (fldA (elemA a7 n68 13) 7) [iw n160] /\ Ob (at0 k10 ≠ none) /\ ∃ n161, Reads H137 (fldA (at0 k10) 6) [iw n161] /\ ∃ H162, Vx.Sub H162 H158 /\
 Ob (a7 ≠ none /\ 0 ≤ n68 /\ n68 < (k8 : Int)) /\ ∃ n163 n164 n165 n166 s167 n168 n169 n170 n171 n172 a173 k174 k175 a176 k177 k178 a179 k180 k181, Reads H162 (elemA a7 n68 13) [iw n163, iw n164, iw n165, iw n166,
 .string s167, iw n168, iw n169, iw n170, iw n171, iw n172, sw a173 k174 k175, sw a176 k177 k178, sw a179 k180 k181] /\ Ob (at0 k10 ≠ none) /\ ∃ b182 n183 n184 n185, Reads H162 (fldA (at0 k10) 2) [.bool b182, iw n183,
 iw n184, iw n185] /\ Triple prog 144 #[Value.agg #[iw n163, iw n164, iw n165, iw n166, .string s167, iw n168, iw n169, iw n170, iw n171, iw n172, sw a173 k174 k175, sw a176 k177 k178, sw a179 k180 k181], Value.agg
 #[.bool b182, iw n183, iw n184, iw n185]] H158 fun v186 H187 => ∃ b188, v186 = .bool b188 /\ (b188 = true -> ∃ H189, Vx.Sub H189 H187 /\ Ob (at0 k10 ≠ none) /\ ∃ a190 k191 k192, Reads H189 (fldA (at0 k10) 7)
 [sw a190 k191 k192] /\ Ob (a7 ≠ none /\ 0 ≤ n68 /\ n68 < (k8 : Int)) /\ Ob (elemA a7 n68 13 ≠ none) /\ ∃ n193, Reads H189 (fldA (elemA a7 n68 13) 1) [Value.int IntKind.i64 n193] /\ ∀ (k194 : Nat), H187 k194 = none ->
 Vx.Sub H189 (H187.upd k194 (Obj.cells #[Value.int IntKind.i64 n193] 3)) /\ EvV prog (Builtin.append_ #[42, 42] 42 #[Value.slice a190 k191 k192, Value.slice (at0 k194) 1 1]) (H187.upd k194 (Obj.cells #[Value.int
 IntKind.i64 n193] 3)) fun v195 H196 => ∃ a197 k198 k199, v195 = Value.slice a197 k198 k199 /\ Ob (at0 k10 ≠ none) /\ ∃ H200, Writes H196 H200 (fldA (at0 k10) 7) [Value.slice a197 k198 k199] /\ R63 [Value.int
 IntKind.i64 (bif n92 == 1 then IntKind.i64.wrap (n65 + 1) else n65), Value.int IntKind.i64 (bif n160 == n161 then IntKind.i64.wrap (n66 + 1) else n66), Value.int IntKind.i64 (bif n136 != 0 then IntKind.i64.wrap (n67 +
 1) else n67), Value.int IntKind.i64 (IntKind.i64.wrap (n68 + 1))] H200 /\ Less (M64 [Value.int IntKind.i64 (bif n92 == 1 then IntKind.i64.wrap (n65 + 1) else n65), Value.int IntKind.i64 (bif n160 == n161 then
 IntKind.i64.wrap (n66 + 1) else n66), Value.int IntKind.i64 (bif n136 != 0 then IntKind.i64.wrap (n67 + 1) else n67), Value.int IntKind.i64 (IntKind.i64.wrap (n68 + 1))] H200) (M64 [Value.int IntKind.i64 n65, Value.int
 IntKind.i64 n66, Value.int IntKind.i64 n67, Value.int IntKind.i64 n68] H69)) /\ (b188 = false -> R63 [Value.int IntKind.i64 (bif n92 == 1 then IntKind.i64.wrap (n65 + 1) else n65), Value.int IntKind.i64
 (bif n160 == n161 then IntKind.i64.wrap (n66 + 1) else n66), Value.int IntKind.i64 (bif n136 != 0 then IntKind.i64.wrap (n67 + 1) else n67), Value.int IntKind.i64 (IntKind.i64.wrap (n68 + 1))] H187 /\ Less (M64
 [Value.int IntKind.i64 (bif n92 == 1 then IntKind.i64.wrap (n65 + 1) else n65), Value.int IntKind.i64 (bif n160 == n161 then IntKind.i64.wrap (n66 + 1) else n66), Value.int IntKind.i64 (bif n136 != 0 then
 IntKind.i64.wrap (n67 + 1) else n67), Value.int IntKind.i64 (IntKind.i64.wrap (n68 + 1))] H187) (M64 [iw n65, iw n66, iw n67, iw n68] H69))) /\ (b159 = !true -> ∃ H201, Vx.Sub H201 H158 /\
 Ob (a7 ≠ none /\ 0 ≤ n68 /\ n68 < (k8 : Int)) /\ ∃ n202 n203 n204 n205 s206 n207 n208 n209 n210 n211 a212 k213 k214 a215 k216 k217 a218 k219 k220, Reads H201 (elemA a7 n68 13) [iw n202, iw n203, iw n204, iw n205,
 .string s206, iw n207, iw n208, iw n209, iw n210, iw n211, sw a212 k213 k214, sw a215 k216 k217, sw a218 k219 k220] /\ Ob (at0 k10 ≠ none) /\ ∃ b221 n222 n223 n224, Reads H201 (fldA (at0 k10) 2) [.bool b221, iw n222,
 iw n223, iw n224] /\ Triple prog 144 #[Value.agg #[iw n202, iw n203, iw n204, iw n205, .string s206, iw n207, iw n208, iw n209, iw n210, iw n211, sw a212 k213 k214, sw a215 k216 k217, sw a218 k219 k220], Value.agg
 #[.bool b221, iw n222, iw n223, iw n224]] H158 fun v225 H226 => ∃ b227, v225 = .bool b227 /\ (b227 = true -> ∃ H228, Vx.Sub H228 H226 /\ Ob (at0 k10 ≠ none) /\ ∃ a229 k230 k231, Reads H228 (fldA (at0 k10) 7)
 [sw a229 k230 k231] /\ Ob (a7 ≠ none /\ 0 ≤ n68 /\ n68 < (k8 : Int)) /\ Ob (elemA a7 n68 13 ≠ none) /\ ∃ n232, Reads H228 (fldA (elemA a7 n68 13) 1) [iw n232] /\ ∀ (k233 : Nat), H226 k233 = none -> Vx.Sub H228
 (H226.upd k233 (Obj.cells #[Value.int IntKind.i64 n232] 3)) /\ EvV prog (Builtin.append_ #[42, 42] 42 #[sw a229 k230 k231, Value.slice (at0 k233) 1 1]) (H226.upd k233 (Obj.cells #[Value.int IntKind.i64 n232] 3))
 fun v234 H235 => ∃ a236 k237 k238, v234 = sw a236 k237 k238 /\ Ob (at0 k10 ≠ none) /\ ∃ H239, Writes H235 H239 (fldA (at0 k10) 7) [sw a236 k237 k238] /\ R63 [Value.int IntKind.i64 (bif n92 == 1 then IntKind.i64.wrap
 (n65 + 1) else n65), Value.int IntKind.i64 n66, Value.int IntKind.i64 (bif n136 != 0 then IntKind.i64.wrap (n67 + 1) else n67), Value.int IntKind.i64 (IntKind.i64.wrap (n68 + 1))] H239 /\ Less (M64 [Value.int
 IntKind.i64 (bif n92 == 1 then IntKind.i64.wrap (n65 + 1) else n65), Value.int IntKind.i64 n66, Value.int IntKind.i64 (bif n136 != 0 then IntKind.i64.wrap (n67 + 1) else n67), Value.int IntKind.i64 (IntKind.i64.wrap
 (n68 + 1))] H239) (M64 [Value.int IntKind.i64 n65, Value.int IntKind.i64 n66, Value.int IntKind.i64 n67, Value.int IntKind.i64 n68] H69)) /\ (b227 = false -> R63 [Value.int IntKind.i64
 (bif n92 == 1 then IntKind.i64.wrap (n65 + 1) else n65), iw n66, Value.int IntKind.i64 (bif n136 != 0 then IntKind.i64.wrap (n67 + 1) else n67), iw (IntKind.i64.wrap (n68 + 1))] H226 /\ Less (M64 [Value.int IntKind.i64
 (bif n92 == 1 then IntKind.i64.wrap (n65 + 1) else n65), iw n66, Value.int IntKind.i64 (bif n136 != 0 then IntKind.i64.wrap (n67 + 1) else n67), Value.int IntKind.i64 (IntKind.i64.wrap (n68 + 1))] H226) (M64 [iw n65,
 iw n66, iw n67, iw n68] H69)))) /\ ((n114 != 0) = !false -> ∃ H240, Vx.Sub H240 H113 /\ Ob (a7 ≠ none /\ 0 ≤ n68 /\ n68 < (k8 : Int)) /\
 ∃ n241 n242 n243 n244 s245 n246 n247 n248 n249 n250 a251 k252 k253 a254 k255 k256 a257 k258 k259, Reads H240 (elemA a7 n68 13) [iw n241, iw n242, iw n243, iw n244, .string s245, iw n246, iw n247,
 iw n248, iw n249, iw n250, sw a251 k252 k253, sw a254 k255 k256, sw a257 k258 k259] /\ Triple prog 143 #[Value.agg #[iw n241, iw n242, iw n243, iw n244, .string s245, iw n246, iw n247, iw n248, iw n249,
 iw n250, sw a251 k252 k253, sw a254 k255 k256, sw a257 k258 k259]] H113 fun v260 H261 => ∃ b262, v260 = .bool b262 /\ Vx.Sub H240 H261 /\ (b262 = true -> Ob (a7 ≠ none /\ 0 ≤ n68 /\ n68 < (k8 : Int)) /\
 Ob (elemA a7 n68 13 ≠ none) /\ ∃ n263, Reads H240 (fldA (elemA a7 n68 13) 7) [iw n263] /\ Ob (at0 k10 ≠ none) /\ ∃ n264, Reads H240 (fldA (at0 k10) 6) [iw n264] /\ ∃ H265, Vx.Sub H265 H261 /\
 Ob (a7 ≠ none /\ 0 ≤ n68 /\ n68 < (k8 : Int)) /\ ∃ n266 n267 n268 n269 s270 n271 n272 n273 n274 n275 a276 k277 k278 a279 k280 k281 a282 k283 k284, Reads H265 (elemA a7 n68 13) [iw n266, iw n267, iw n268, iw n269,
 .string s270, iw n271, iw n272, iw n273, iw n274, iw n275, sw a276 k277 k278, sw a279 k280 k281, sw a282 k283 k284] /\ Ob (at0 k10 ≠ none) /\ ∃ b285 n286 n287 n288, Reads H265 (fldA (at0 k10) 2) [.bool b285, iw n286,
 iw n287, iw n288] /\ Triple prog 144 #[Value.agg #[iw n266, iw n267, iw n268, iw n269, .string s270, iw n271, iw n272, iw n273, iw n274, iw n275, sw a276 k277 k278, sw a279 k280 k281, sw a282 k283 k284], Value.agg
 #[.bool b285, iw n286, iw n287, iw n288]] H261 fun v289 H290 => ∃ b291, v289 = .bool b291 /\ (b291 = true -> ∃ H292, Vx.Sub H292 H290 /\ Ob (at0 k10 ≠ none) /\ ∃ a293 k294 k295, Reads H292 (fldA (at0 k10) 7)
 [sw a293 k294 k295] /\ Ob (a7 ≠ none /\ 0 ≤ n68 /\ n68 < (k8 : Int)) /\ Ob (elemA a7 n68 13 ≠ none) /\ ∃ n296, Reads H292 (fldA (elemA a7 n68 13) 1) [iw n296] /\ ∀ (k297 : Nat), H290 k297 = none -> Vx.Sub H292
 (H290.upd k297 (Obj.cells #[Value.int IntKind.i64 n296] 3)) /\ EvV prog (Builtin.append_ #[42, 42] 42 #[sw a293 k294 k295, Value.slice (at0 k297) 1 1]) (H290.upd k297 (Obj.cells #[Value.int IntKind.i64 n296] 3))
 fun v298 H299 => ∃ a300 k301 k302, v298 = sw a300 k301 k302 /\ Ob (at0 k10 ≠ none) /\ ∃ H303, Writes H299 H303 (fldA (at0 k10) 7) [sw a300 k301 k302] /\ R63 [Value.int IntKind.i64 (bif n92 == 1 then IntKind.i64.wrap
 (n65 + 1) else n65), Value.int IntKind.i64 (bif n263 == n264 then IntKind.i64.wrap (n66 + 1) else n66), Value.int IntKind.i64 (IntKind.i64.wrap (n67 + 1)), Value.int IntKind.i64 (IntKind.i64.wrap (n68 + 1))] H303 /\
 Less (M64 [Value.int IntKind.i64 (bif n92 == 1 then IntKind.i64.wrap (n65 + 1) else n65), Value.int IntKind.i64 (bif n263 == n264 then IntKind.i64.wrap (n66 + 1) else n66), Value.int IntKind.i64 (IntKind.i64.wrap
 (n67 + 1)), Value.int IntKind.i64 (IntKind.i64.wrap (n68 + 1))] H303) (M64 [Value.int IntKind.i64 n65, Value.int IntKind.i64 n66, Value.int IntKind.i64 n67, Value.int IntKind.i64 n68] H69)) /\ (b291 = false -> R63
 [Value.int IntKind.i64 (bif n92 == 1 then IntKind.i64.wrap (n65 + 1) else n65), Value.int IntKind.i64 (bif n263 == n264 then IntKind.i64.wrap (n66 + 1) else n66), Value.int IntKind.i64 (IntKind.i64.wrap (n67 + 1)),
 Value.int IntKind.i64 (IntKind.i64.wrap (n68 + 1))] H290 /\ Less (M64 [Value.int IntKind.i64 (bif n92 == 1 then IntKind.i64.wrap (n65 + 1) else n65), Value.int IntKind.i64 (bif n263 == n264 then
 IntKind.i64.wrap (n66 + 1) else n66), Value.int IntKind.i64 (IntKind.i64.wrap (n67 + 1)), Value.int IntKind.i64 (IntKind.i64.wrap (n68 + 1))] H290) (M64 [iw n65, iw n66, iw n67, iw n68] H69))) /\ (b262 = !true ->
 ∃ H304, Vx.Sub H304 H261 /\ Ob (a7 ≠ none /\ 0 ≤ n68 /\ n68 < (k8 : Int)) /\ ∃ n305 n306 n307 n308 s309 n310 n311 n312 n313 n314 a315 k316 k317 a318 k319 k320 a321 k322 k323, Reads H304 (elemA a7 n68 13)
 [iw n305, iw n306, iw n307, iw n308, .string s309, iw n310, iw n311, iw n312, iw n313, iw n314, sw a315 k316 k317, sw a318 k319 k320, sw a321 k322 k323] /\ Ob (at0 k10 ≠ none) /\ ∃ b324 n325 n326 n327,
 Reads H304 (fldA (at0 k10) 2) [.bool b324, iw n325, iw n326, iw n327] /\ Triple prog 144 #[Value.agg #[iw n305, iw n306, iw n307, iw n308, .string s309, iw n310, iw n311, iw n312, iw n313, iw n314,
 sw a315 k316 k317, sw a318 k319 k320, sw a321 k322 k323], Value.agg #[.bool b324, iw n325, iw n326, iw n327]] H261 fun v328 H329 => ∃ b330, v328 = .bool b330 /\ (b330 = true -> ∃ H331, Vx.Sub H331 H329 /\
 Ob (at0 k10 ≠ none) /\ ∃ a332 k333 k334, Reads H331 (fldA (at0 k10) 7) [sw a332 k333 k334] /\ Ob (a7 ≠ none /\ 0 ≤ n68 /\ n68 < (k8 : Int)) /\ Ob (elemA a7 n68 13 ≠ none) /\ ∃ n335,
 Reads H331 (fldA (elemA a7 n68 13) 1) [iw n335] /\ ∀ (k336 : Nat), H329 k336 = none -> Vx.Sub H331 (H329.upd k336 (Obj.cells #[iw n335] 3)) /\ EvV prog (Builtin.append_ #[42, 42] 42 #[sw a332 k333 k334, Value.slice
 (at0 k336) 1 1]) (H329.upd k336 (Obj.cells #[iw n335] 3)) fun v337 H338 => ∃ a339 k340 k341, v337 = sw a339 k340 k341 /\ Ob (at0 k10 ≠ none) /\ ∃ H342, Writes H338 H342 (fldA (at0 k10) 7) [sw a339 k340 k341] /\ R63
 [Value.int IntKind.i64 (bif n92 == 1 then IntKind.i64.wrap (n65 + 1) else n65), iw n66, Value.int IntKind.i64 (IntKind.i64.wrap (n67 + 1)), Value.int IntKind.i64 (IntKind.i64.wrap (n68 + 1))] H342 /\ Less (M64
 [Value.int IntKind.i64 (bif n92 == 1 then IntKind.i64.wrap (n65 + 1) else n65), iw n66, Value.int IntKind.i64 (IntKind.i64.wrap (n67 + 1)), Value.int IntKind.i64 (IntKind.i64.wrap (n68 + 1))] H342) (M64 [iw n65,
 iw n66, iw n67, iw n68] H69)) /\ (b330 = false -> R63 [Value.int IntKind.i64 (bif n92 == 1 then IntKind.i64.wrap (n65 + 1) else n65), iw n66, iw (IntKind.i64.wrap (n67 + 1)), iw (IntKind.i64.wrap (n68 + 1))] H329 /\
 Less (M64 [Value.int IntKind.i64 (bif n92 == 1 then IntKind.i64.wrap (n65 + 1) else n65), iw n66, iw (IntKind.i64.wrap (n67 + 1)), iw (IntKind.i64.wrap (n68 + 1))] H329) (M64 [iw n65, iw n66, iw n67, iw n68]
 H69)))))) /\ (decide (n68 < (k8 : Int)) = false -> Ob (at0 k10 ≠ none) /\ ∃ H343, Writes H69 H343 (fldA (at0 k10) 0) [.bool (decide (n65 ≥ IntKind.i64.wrap (IntKind.i64.wrap (n1 - n4) + 1)))] /\ ((n67 == 0) = true ->
 Ob (at0 k10 ≠ none) /\ ∃ n344, Reads H343 (fldA (at0 k10) 6) [iw n344] /\ ((n344 == 0) = false -> Ob (at0 k10 ≠ none) /\ ∃ H345, Writes H343 H345 (fldA (at0 k10) 1) [.bool (decide (n66 ≥ n4))] /\
 ∃ b346 b347 b348 n349 n350 n351 n352 a353 k354 k355, Reads H345 (at0 k10) [.bool b346, .bool b347, .bool b348, iw n349, iw n350, iw n351, iw n352, sw a353 k354 k355] /\ Q (Value.agg
 #[.bool b346, .bool b347, .bool b348, iw n349, iw n350, iw n351, iw n352, sw a353 k354 k355]) H345) /\ ((n344 == 0) = !false -> Ob (at0 k10 ≠ none) /\ ∃ H356, Writes H343 H356 (fldA (at0 k10) 1) [.bool true] /\
 ∃ b357 b358 b359 n360 n361 n362 n363 a364 k365 k366, Reads H356 (at0 k10) [.bool b357, .bool b358, .bool b359, iw n360, iw n361, iw n362, iw n363, sw a364 k365 k366] /\ Q (Value.agg
 #[.bool b357, .bool b358, .bool b359, iw n360, iw n361, iw n362, iw n363, sw a364 k365 k366]) H356)) /\ ((n67 == 0) = !true -> Ob (at0 k10 ≠ none) /\ ∃ H367, Writes H343 H367 (fldA (at0 k10) 1) [.bool false] /\
 ∃ b368 b369 b370 n371 n372 n373 n374 a375 k376 k377, Reads H367 (at0 k10) [.bool b368, .bool b369, .bool b370, iw n371, iw n372, iw n373, iw n374, sw a375 k376 k377] /\ Q (Value.agg
 #[.bool b368, .bool b369, .bool b370, iw n371, iw n372, iw n373, iw n374, sw a375 k376 k377]) H367))))) : Triple prog 107 ([.agg #[iw n1, iw n2, iw n3, iw n4, iw n5, iw n6], sw a7 k8 k9]).toArray H Q :=
 Triple.of_vc rSettle.cx (by kernel_rfl) h
theorem rHold.vc (a1 : Option Addr) (k2 k3 : Nat) (b4 : Bool) (n5 n6 n7 : Int) (H : PHeap) (Q : Value -> PHeap -> Prop)
 (h : ∃ (R8 : Rl) (M9 : Mu), R8 [sw none 0 0, iw 0] H /\ ∀ (a10 : Option Addr) (k11 k12 : Nat) (n13 : Int) (H14 : PHeap), R8 [sw a10 k11 k12, iw n13] H14 -> (decide (n13 < (k2 : Int)) = true -> ∃ H15, Vx.Sub H15 H14 /\
 Ob (a1 ≠ none /\ 0 ≤ n13 /\ n13 < (k2 : Int)) /\ ∃ n16 n17 n18 n19 s20 n21 n22 n23 n24 n25 a26 k27 k28 a29 k30 k31 a32 k33 k34, Reads H15 (elemA a1 n13 13) [iw n16, iw n17, iw n18, iw n19, .string s20, iw n21,
 iw n22, iw n23, iw n24, iw n25, sw a26 k27 k28, sw a29 k30 k31, sw a32 k33 k34] /\ Triple prog 144 #[Value.agg #[iw n16, iw n17, iw n18, iw n19, .string s20, iw n21,
 iw n22, iw n23, iw n24, iw n25, sw a26 k27 k28, sw a29 k30 k31, sw a32 k33 k34], .agg #[.bool b4, iw n5, iw n6, iw n7]] H14 fun v35 H36 => ∃ b37, v35 = .bool b37 /\ (b37 = true ->
 Ob (a1 ≠ none /\ 0 ≤ n13 /\ n13 < (k2 : Int)) /\ Ob (elemA a1 n13 13 ≠ none) /\ ∃ n38, Reads H36 (fldA (elemA a1 n13 13) 1) [iw n38] /\ ∀ (k39 : Nat), H36 k39 = none ->
 EvV prog (Builtin.append_ #[42, 42] 42 #[sw a10 k11 k12, sw (at0 k39) 1 1]) (H36.upd k39 (Obj.cells #[iw n38] 3)) fun v40 H41 => ∃ a42 k43 k44, v40 = sw a42 k43 k44 /\
 R8 [sw a42 k43 k44, iw (IntKind.i64.wrap (n13 + 1))] H41 /\ Less (M9 [sw a42 k43 k44, iw (IntKind.i64.wrap (n13 + 1))] H41) (M9 [sw a10 k11 k12, iw n13] H14)) /\ (b37 = false ->
 R8 [sw a10 k11 k12, iw (IntKind.i64.wrap (n13 + 1))] H36 /\ Less (M9 [sw a10 k11 k12, iw (IntKind.i64.wrap (n13 + 1))] H36) (M9 [sw a10 k11 k12, iw n13] H14))) /\
 (decide (n13 < (k2 : Int)) = false -> Q (sw a10 k11 k12) H14)) : Triple prog 109 ([sw a1 k2 k3, .agg #[.bool b4, iw n5, iw n6, iw n7]]).toArray H Q := Triple.of_vc rHold.cx (by kernel_rfl) h
theorem rHolds.vc (n1 n2 n3 n4 : Int) (s5 : ByteArray) (n6 n7 n8 n9 n10 : Int) (a11 : Option Addr) (k12 k13 : Nat) (a14 : Option Addr) (k15 k16 : Nat) (a17 : Option Addr) (k18 k19 : Nat) (b20 : Bool) (n21 n22 n23 : Int) (H : PHeap) (Q : Value -> PHeap -> Prop)
 (h : Q (.bool (bif b20 then bif n10 == 2 then bif n6 == n21 then n7 == n22 else false else false else false)) H) : Triple prog 144 ([Value.agg #[iw n1, iw n2, iw n3, iw n4, .string s5, iw n6, iw n7,
 iw n8, iw n9, iw n10, sw a11 k12 k13, sw a14 k15 k16, sw a17 k18 k19], .agg #[.bool b20, iw n21, iw n22, iw n23]]).toArray H Q := Triple.of_vc rHolds.cx (by kernel_rfl) h
theorem rMarked.vc (n1 n2 n3 n4 : Int) (s5 : ByteArray) (n6 n7 n8 n9 n10 : Int) (a11 : Option Addr) (k12 k13 : Nat) (a14 : Option Addr) (k15 k16 : Nat) (a17 : Option Addr) (k18 k19 : Nat) (H : PHeap) (Q : Value -> PHeap -> Prop)
 (h : Q (.bool (bif n1 == 14 then bif decide (n10 ≥ 2) then decide (n10 ≤ 4) else false else false)) H) : Triple prog 143 ([Value.agg #[iw n1, iw n2, iw n3, iw n4, .string s5, iw n6, iw n7,
 iw n8, iw n9, iw n10, sw a11 k12 k13, sw a14 k15 k16, sw a17 k18 k19]]).toArray H Q := Triple.of_vc rMarked.cx (by kernel_rfl) h
theorem rWho.vc (n1 n2 n3 n4 : Int) (s5 : ByteArray) (n6 n7 n8 n9 n10 : Int) (a11 : Option Addr) (k12 k13 : Nat) (a14 : Option Addr) (k15 k16 : Nat) (a17 : Option Addr) (k18 k19 : Nat) (n20 : Int) (H : PHeap) (Q : Value -> PHeap -> Prop)
 (h : (decide (n20 ≥ (k12 : Int)) = true -> Q (iw 0) H) /\ (decide (n20 ≥ (k12 : Int)) = false -> Ob (a11 ≠ none /\ 0 ≤ n20 /\ n20 < (k12 : Int)) /\ ∃ n21, Reads H (elemA a11 n20 1) [iw n21] /\ Q (iw n21) H)) :
 Triple prog 114 ([Value.agg #[iw n1, iw n2, iw n3, iw n4, .string s5, iw n6, iw n7, iw n8, iw n9, iw n10, sw a11 k12 k13, sw a14 k15 k16, sw a17 k18 k19], iw n20]).toArray H Q := Triple.of_vc rWho.cx (by kernel_rfl) h
end Go.Vc
