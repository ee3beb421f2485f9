/- Plain law of texts: rising lists, one more, and a sorted list of distinct texts. · What is to be shown of each function, in its normal form.  · The contracts of names: whether a text is one, which is less; going through lists of texts. · The contracts of merging texts, and of the texts behind one. · What is to be shown of each function, in its normal form.  · Pages: the contracts of the library's functions on texts, and of what a page says. · Pages: the contract of a turn, where nobody is suspect. · Pages: what turns tell in the end, in plain lists. -/
import Derived.Test.YtajkbeifgghpmaaGreatProg
import Derived.Test.YtajkbeifgghpmaaGreatCPk08
set_option linter.unusedVariables false
set_option maxRecDepth 100000
namespace Go.Lab
open Go.Vx Go.Txt
theorem rising_ext : ∀ {l m : List ByteArray}, Rising l → Rising m → (∀ x, x ∈ l ↔ x ∈ m) → l = m
  | [], [], _, _, _ => rfl
  | [], y :: _, _, _, h => by have := (h y).2 (by simp); simp at this
  | x :: _, [], _, _, h => by have := (h x).1 (by simp); simp at this
  | x :: xs, y :: ys, h1, h2, h => by
    obtain ⟨a1, a2⟩ := List.pairwise_cons.1 h1
    obtain ⟨b1, b2⟩ := List.pairwise_cons.1 h2
    have e : x = y := by
      refine Classical.byContradiction fun hne => ?_
      have hx : x ∈ ys := by
        rcases List.mem_cons.1 ((h x).1 (by simp)) with e | hx
        · exact absurd e hne
        · exact hx
      have hy : y ∈ xs := by
        rcases List.mem_cons.1 ((h y).2 (by simp)) with e | hy
        · exact absurd e.symm hne
        · exact hy
      have := lessS_asymm (a1 y hy)
      rw [b1 x hx] at this; cases this
    subst e
    have hxs : x ∉ xs := fun hm => by have := a1 x hm; rw [lessS_irrefl] at this; cases this
    have hys : x ∉ ys := fun hm => by have := b1 x hm; rw [lessS_irrefl] at this; cases this
    rw [rising_ext a2 b2 fun z => ⟨fun hz => by
      rcases List.mem_cons.1 ((h z).1 (by simp [hz])) with rfl | hz'
      · exact absurd hz hxs
      · exact hz', fun hz => by
      rcases List.mem_cons.1 ((h z).2 (by simp [hz])) with rfl | hz'
      · exact absurd hz hys
      · exact hz'⟩]
theorem takeWhile_mem {α : Type} {p : α → Bool} {l : List α} {x : α} (h : x ∈ l.takeWhile p) : p x = true := by
  induction l with
  | nil => simp at h
  | cons y ys ih =>
    rw [List.takeWhile_cons] at h
    split at h
    · rcases List.mem_cons.1 h with rfl | h
      · assumption
      · exact ih h
    · simp at h
theorem dropWhile_head {α : Type} {p : α → Bool} : ∀ {l : List α} {y : α} {r : List α}, l.dropWhile p = y :: r → p y = false
  | [], _, _, h => by simp at h
  | x :: xs, y, r, h => by
    rw [List.dropWhile_cons] at h
    split at h
    · exact dropWhile_head h
    · injection h with h1 h2
      subst h1
      simpa using (by assumption : ¬ p x = true)
theorem take_tw {α : Type} (p : α → Bool) (l : List α) : l.take (l.takeWhile p).length = l.takeWhile p ∧ l.drop (l.takeWhile p).length = l.dropWhile p := by
  have h := List.takeWhile_append_dropWhile (p := p) (l := l)
  generalize l.takeWhile p = A at *
  generalize l.dropWhile p = B at *
  subst h
  exact ⟨List.take_left' rfl, List.drop_left' rfl⟩
theorem add_rising {l : List ByteArray} (s : ByteArray) (h : Rising l) : Rising (addL l s) ∧ ∀ x, x ∈ addL l s ↔ x ∈ l ∨ x = s := by
  obtain ⟨e1, e2⟩ := take_tw (fun t => lessS t s) l
  have hl := List.takeWhile_append_dropWhile (p := fun t => lessS t s) (l := l)
  unfold addL
  split
  · rename_i hs
    refine ⟨h, fun x => ⟨.inl, ?_⟩⟩
    rintro (hx | rfl)
    · exact hx
    · cases hg : l[(l.takeWhile fun t => lessS t x).length]? with
      | none => rw [hg] at hs; simp at hs
      | some t =>
        rw [hg] at hs
        simp at hs
        rw [← eqS_iff.1 hs]
        exact List.mem_of_getElem? hg
  · rename_i hs
    rw [e1, e2]
    have hlo : ∀ x ∈ l.takeWhile (fun t => lessS t s), lessS x s = true := fun x hx => takeWhile_mem (p := fun t => lessS t s) hx
    have hsub : Rising (l.takeWhile (fun t => lessS t s) ++ l.dropWhile (fun t => lessS t s)) := by rw [hl]; exact h
    obtain ⟨p1, p2, p3⟩ := List.pairwise_append.1 hsub
    have hhi : ∀ x ∈ l.dropWhile (fun t => lessS t s), lessS s x = true := by
      cases hd : l.dropWhile (fun t => lessS t s) with
      | nil => simp
      | cons y r =>
        have hy : lessS y s = false := dropWhile_head (p := fun t => lessS t s) hd
        have hyl : l[(l.takeWhile fun t => lessS t s).length]? = some y := by
          have : (l.drop (l.takeWhile fun t => lessS t s).length)[0]? = some y := by rw [e2, hd]; rfl
          rwa [List.getElem?_drop, Nat.add_zero] at this
        rw [hyl] at hs
        have hne : y ≠ s := by simpa [eqS_iff] using hs
        have hsy : lessS s y = true := by
          rcases lessS_total hne with h1 | h1
          · rw [hy] at h1; cases h1
          · exact h1
        rw [hd] at p2
        obtain ⟨q1, _⟩ := List.pairwise_cons.1 p2
        intro x hx
        rcases List.mem_cons.1 hx with rfl | hx
        · exact hsy
        · exact lessS_trans hsy (q1 x hx)
    refine ⟨List.pairwise_append.2 ⟨p1, List.pairwise_cons.2 ⟨hhi, p2⟩, fun a ha b hb => ?_⟩, fun x => ?_⟩
    · rcases List.mem_cons.1 hb with rfl | hb
      · exact hlo a ha
      · exact p3 a ha b hb
    · rw [List.mem_append, List.mem_cons]
      conv => rhs; rw [← hl, List.mem_append]
      constructor
      · rintro (h1 | h1 | h1)
        · exact .inl (.inl h1)
        · exact .inr h1
        · exact .inl (.inr h1)
      · rintro ((h1 | h1) | h1)
        · exact .inl h1
        · exact .inr (.inr h1)
        · exact .inr (.inl h1)
/-- All texts, one behind the other. -/
def mergeL (l : List ByteArray) : List ByteArray := l.foldl addL []
theorem foldl_rising : ∀ (l : List ByteArray) {o : List ByteArray}, Rising o → Rising (l.foldl addL o) ∧ ∀ x, x ∈ l.foldl addL o ↔ x ∈ o ∨ x ∈ l
  | [], o, h => ⟨h, fun x => by simp⟩
  | s :: l, o, h => by
    obtain ⟨h1, h2⟩ := add_rising s h
    obtain ⟨h3, h4⟩ := foldl_rising l h1
    refine ⟨h3, fun x => ?_⟩
    rw [List.foldl_cons, h4, h2, List.mem_cons]
    constructor
    · rintro ((h | h) | h)
      · exact .inl h
      · exact .inr (.inl h)
      · exact .inr (.inr h)
    · rintro (h | h | h)
      · exact .inl (.inl h)
      · exact .inl (.inr h)
      · exact .inr h
theorem mergeL_rising (l : List ByteArray) : Rising (mergeL l) ∧ ∀ x, x ∈ mergeL l ↔ x ∈ l := by
  obtain ⟨h1, h2⟩ := foldl_rising l (o := []) List.Pairwise.nil
  exact ⟨h1, fun x => by rw [mergeL, h2]; simp⟩
theorem addL_len (l : List ByteArray) (s : ByteArray) : (addL l s).length ≤ l.length + 1 := by
  unfold addL
  split
  · omega
  · rw [List.length_append, List.length_cons, List.length_take, List.length_drop]; omega
theorem foldl_len : ∀ (l : List ByteArray) (o : List ByteArray), (l.foldl addL o).length ≤ o.length + l.length
  | [], o => by simp
  | s :: l, o => by
    have h1 := foldl_len l (addL o s)
    have h2 := addL_len o s
    rw [List.foldl_cons, List.length_cons]
    omega
abbrev ofB (x : ByteArray) : List UInt8 := x.data.toList
abbrev toB (x : List UInt8) : ByteArray := ⟨x.toArray⟩
theorem toB_ofB (x : ByteArray) : toB (ofB x) = x := by cases x; simp [toB, ofB]
theorem ofB_toB (x : List UInt8) : ofB (toB x) = x := by simp [toB, ofB]
theorem bl_lt : ∀ (x y : List UInt8), Op.bytesLess x y = decide (x < y)
  | [], [] => by simp [Op.bytesLess]
  | _ :: _, [] => by simp [Op.bytesLess]
  | [], _ :: _ => by simp [Op.bytesLess]
  | a :: x, b :: y => by
    rw [Op.bytesLess, bl_lt x y]
    simp only [List.cons_lt_cons_iff]
    by_cases h1 : a < b <;> by_cases h2 : a = b <;> by_cases h3 : x < y <;> simp [h1, h2, h3]
theorem le_iff (x y : List UInt8) : decide (x ≤ y) = !Op.bytesLess y x := by
  rw [bl_lt]
  by_cases h : y < x
  · have : ¬ x ≤ y := fun h2 => h2 h
    simp [h, this]
  · have : x ≤ y := h
    simp [h, this]
theorem less_ofB (x y : ByteArray) : lessS x y = Op.bytesLess (ofB x) (ofB y) := by unfold lessS; rw [toListB, toListB]
/-- Distinct texts, sorted, rise. -/
theorem sorted_rising {l : List ByteArray} (hn : l.Nodup) : Rising (((l.map ofB).mergeSort fun x y => decide (x ≤ y)).map toB) ∧ ∀ x, x ∈ ((l.map ofB).mergeSort fun x y => decide (x ≤ y)).map toB ↔ x ∈ l := by
  have hp := List.mergeSort_perm (l.map ofB) (fun x y => decide (x ≤ y))
  have hmem : ∀ x, x ∈ ((l.map ofB).mergeSort fun x y => decide (x ≤ y)).map toB ↔ x ∈ l := fun x => by
    rw [List.mem_map]
    constructor
    · rintro ⟨y, hy, rfl⟩
      obtain ⟨z, hz, rfl⟩ := List.mem_map.1 (hp.mem_iff.1 hy)
      rw [toB_ofB]; exact hz
    · intro hx
      exact ⟨ofB x, hp.mem_iff.2 (List.mem_map.2 ⟨x, hx, rfl⟩), toB_ofB x⟩
  refine ⟨?_, hmem⟩
  have hs := List.pairwise_mergeSort (le := fun x y : List UInt8 => decide (x ≤ y)) (fun a b c h1 h2 => by
    rw [le_iff] at *
    simp only [Bool.not_eq_true'] at *
    cases h3 : Op.bytesLess c a with
    | false => rfl
    | true =>
      by_cases e : b = a
      · subst e; rw [h2] at h3; cases h3
      · rcases bytesLess_total e with h4 | h4
        · rw [h1] at h4; cases h4
        · have := bytesLess_trans h3 h4; rw [h2] at this; cases this) (fun a b => by
    rw [le_iff, le_iff]
    cases h1 : Op.bytesLess b a with
    | false => rfl
    | true =>
      cases h2 : Op.bytesLess a b with
      | false => rfl
      | true => have := bytesLess_trans h1 h2; rw [bytesLess_irrefl] at this; cases this) (l.map ofB)
  have hnd : (l.map ofB).Nodup := by
    rw [List.nodup_iff_pairwise_ne, List.pairwise_map]
    exact hn.imp fun {a b} hne e => hne (by rw [← toB_ofB a, e, toB_ofB])
  have hnd2 := hp.nodup_iff.2 hnd
  have hboth : ((l.map ofB).mergeSort fun x y => decide (x ≤ y)).Pairwise fun a b => Op.bytesLess a b = true := by
    refine List.Pairwise.imp₂ (R := fun a b => decide (a ≤ b) = true) (S := fun a b => a ≠ b) (fun a b h1 h2 => ?_) hs hnd2
    rw [le_iff] at h1
    rcases bytesLess_total h2 with h3 | h3
    · exact h3
    · rw [h3] at h1; cases h1
  unfold Rising
  rw [List.pairwise_map]
  exact hboth.imp fun h => by rw [less_ofB, ofB_toB, ofB_toB]; exact h
end Go.Lab
namespace Go.Vc
open Go.Vx Go Go.Proofs.Tryz
def right.cx : Cx := ⟨[], [(4, [18], [])], [], []⟩
def sign.cx : Cx := ⟨[], [], [], []⟩
def less.cx : Cx := ⟨[], [], [], []⟩
def each.cx : Cx := ⟨[1], [], [], []⟩
def each1.cx : Cx := ⟨[], [(1, [9], []), (4, [15], [])], [], []⟩
def merge.cx : Cx := ⟨[3, 4], [], [], [(9, [9])]⟩
def refRight.cx : Cx := ⟨[], [(4, [3], [])], [], []⟩
def farS.cx : Cx := ⟨[], [(2, [3], [])], [], []⟩
theorem right.vc (s1 : ByteArray) (H : PHeap) (Q : Value -> PHeap -> Prop)
 (h : (eqS s1 ({ data := #[] } : ByteArray) = false -> (decide ((s1.size : Int) > 16) = false -> Ob ((0 : Int) ≤ 0 /\ 0 < (s1.size : Int)) /\ ((byteAt s1 0 == 45) = true -> Q (.bool false) H) /\
 ((byteAt s1 0 == 45) = false -> ∃ (R2 : Rl) (M3 : Mu), R2 [iw 0] H /\ ∀ (n4 : Int) (H5 : PHeap), R2 [iw n4] H5 -> (decide (n4 < (s1.size : Int)) = true -> Ob (0 ≤ n4 /\ n4 < (s1.size : Int)) /\
 Triple prog 53 #[Value.int IntKind.u8 (byteAt s1 n4)] H5 fun v6 H7 => ∃ b8, v6 = .bool b8 /\ ((!b8) = true -> Q (.bool false) H7) /\ ((!b8) = false -> R2 [iw (IntKind.i64.wrap (n4 + 1))] H7 /\
 Less (M3 [iw (IntKind.i64.wrap (n4 + 1))] H7) (M3 [iw n4] H5))) /\ (decide (n4 < (s1.size : Int)) = false -> Q (.bool true) H5))) /\ (decide ((s1.size : Int) > 16) = !false -> Q (.bool false) H)) /\
 (eqS s1 ({ data := #[] } : ByteArray) = !false -> Q (.bool false) H)) : Triple prog 20 ([.string s1]).toArray H Q := Triple.of_vc right.cx (by kernel_rfl) h
theorem sign.vc (n1 : Int) (H : PHeap) (Q : Value -> PHeap -> Prop)
 (h : Q (Value.bool (bif decide (n1 ≥ 97) then bif decide (n1 ≤ 122) then true else bif decide (n1 ≥ 48) then bif decide (n1 ≤ 57) then true else n1 == 45 else n1 == 45
 else bif decide (n1 ≥ 48) then bif decide (n1 ≤ 57) then true else n1 == 45 else n1 == 45)) H) : Triple prog 53 ([Value.int IntKind.u8 n1]).toArray H Q := Triple.of_vc sign.cx (by kernel_rfl) h
theorem less.vc (s1 s2 : ByteArray) (H : PHeap) (Q : Value -> PHeap -> Prop)
 (h : Q (.bool (lessS s1 s2)) H) : Triple prog 126 ([.string s1, .string s2]).toArray H Q := Triple.of_vc less.cx (by kernel_rfl) h
theorem each.vc (a1 : Option Addr) (k2 k3 : Nat) (H : PHeap) (Q : Value -> PHeap -> Prop)
 (h : ∀ (k4 : Nat), H k4 = none -> Q (Value.func (Fn.func 177) #[] #[.pointer (at0 k4)]) (H.upd k4 (Obj.cells #[sw a1 k2 k3] 185))) : Triple prog 152 ([sw a1 k2 k3]).toArray H Q := Triple.of_vc each.cx (by kernel_rfl) h
theorem each1.vc (v1 : Value) (a2 : Option Addr) (H : PHeap) (Q : Value -> PHeap -> Prop)
 (h : ∃ a3 k4 k5, Reads H a2 [sw a3 k4 k5] /\ ∃ (R6 : Rl) (M7 : Mu), R6 [iw 0] H /\ ∀ (n8 : Int) (H9 : PHeap), R6 [iw n8] H9 -> (decide (n8 < (k4 : Int)) = true -> Ob (a3 ≠ none /\ 0 ≤ n8 /\ n8 < (k4 : Int)) /\
 ∃ a10 k11 k12, Reads H9 (elemA a3 n8 1) [sw a10 k11 k12] /\ ∃ (R13 : Rl) (M14 : Mu), R13 [iw 0] H9 /\ ∀ (n15 : Int) (H16 : PHeap), R13 [iw n15] H16 -> (decide (n15 < (k11 : Int)) = true ->
 Ob (a10 ≠ none /\ 0 ≤ n15 /\ n15 < (k11 : Int)) /\ ∃ s17, Reads H16 (elemA a10 n15 1) [.string s17] /\ CallY prog v1 #[.string s17] H16 fun v18 H19 => ∃ b20, v18 = .bool b20 /\ ((!b20) = true -> Q (.tuple #[]) H19) /\
 ((!b20) = false -> R13 [iw (IntKind.i64.wrap (n15 + 1))] H19 /\ Less (M14 [iw (IntKind.i64.wrap (n15 + 1))] H19) (M14 [iw n15] H16))) /\ (decide (n15 < (k11 : Int)) = false ->
 R6 [iw (IntKind.i64.wrap (n8 + 1))] H16 /\ Less (M7 [iw (IntKind.i64.wrap (n8 + 1))] H16) (M7 [iw n8] H9))) /\ (decide (n8 < (k4 : Int)) = false -> Q (.tuple #[]) H9)) :
 Triple prog 177 ([v1, .pointer a2]).toArray H Q := Triple.of_vc each1.cx (by kernel_rfl) h
theorem merge.vc (a1 : Option Addr) (k2 k3 : Nat) (H : PHeap) (Q : Value -> PHeap -> Prop)
 (h : EvV prog (Instr.makeMap 186 none) H fun v4 H5 => ∃ a6, v4 = Value.map a6 /\ ∀ (k7 : Nat), H5 k7 = none -> ∃ H8, Writes (H5.upd k7 (Obj.cells #[Value.map none] 186)) H8 (at0 k7) [Value.map a6] /\ ∀ (k9 : Nat),
 H8 k9 = none -> Triple prog 152 #[sw a1 k2 k3] (H8.upd k9 (Obj.cells #[sw none 0 0] 49)) fun v10 H11 => ∃ v12, v10 = v12 /\ ∃ (x13 : _) (J14 : (Nat -> PHeap -> Prop)) (J15 : (Nat -> PHeap -> Prop)) (H16 : _),
 Vx.Sub H16 H11 /\ IterOk prog v12 H16 x13 /\ FitAll [.string ({ data := #[] } : ByteArray)] x13 /\ (∀ (k17 : Nat) (H18 : PHeap), J14 k17 H18 -> Vx.Sub H16 H18) /\ J14 0 H11 /\
 (∀ (s19 : ByteArray) (k20 : Nat) (H21 : PHeap), Nth x13 k20 [.string s19] -> J14 k20 H21 -> ∃ a22, Reads H21 (at0 k7) [Value.map a22] /\ LookV prog (Instr.lookup 186 (Value.map a22) (.string s19) false) H21 fun v23 =>
 ∃ n24, v23 = iw n24 /\ EvU prog (Instr.mapUpdate 186 (Value.map a22) (.string s19) (iw (IntKind.i64.wrap (n24 + 1)))) H21 fun H25 => ∃ a26, Reads H25 (at0 k7) [Value.map a26] /\
 LookV prog (Instr.lookup 186 (Value.map a26) (.string s19) false) H25 fun v27 => ∃ n28, v27 = iw n28 /\ ((n28 == 1) = true -> ∃ a29 k30 k31, Reads H25 (at0 k9) [sw a29 k30 k31] /\ ∀ (k32 : Nat), H25 k32 = none ->
 EvV prog (Builtin.append_ #[49, 49] 49 #[sw a29 k30 k31, sw (at0 k32) 1 1]) (H25.upd k32 (Obj.cells #[.string s19] 9)) fun v33 H34 => ∃ a35 k36 k37, v33 = sw a35 k36 k37 /\
 ∃ H38, Writes H34 H38 (at0 k9) [sw a35 k36 k37] /\ J14 (k20 + 1) H38) /\ ((n28 == 1) = false -> J14 (k20 + 1) H25)) /\ (∀ (H39 : PHeap), J14 x13.length H39 -> ∃ a40 k41 k42, Reads H39 (at0 k9) [sw a40 k41 k42] /\
 Triple prog 153 #[sw a40 k41 k42] H39 fun v43 H44 => v43 = .tuple #[] /\ ∃ a45 k46 k47, Reads H44 (at0 k9) [sw a45 k46 k47] /\ Q (sw a45 k46 k47) H44) /\ True /\ True) : Triple prog 132 ([sw a1 k2 k3]).toArray H Q :=
 Triple.of_vc merge.cx (by kernel_rfl) h
theorem refRight.vc (s1 : ByteArray) (H : PHeap) (Q : Value -> PHeap -> Prop)
 (h : ((bif decide ((s1.size : Int) < 1) then true else decide ((s1.size : Int) > 16)) = true -> Q (.bool false) H) /\ ((bif decide ((s1.size : Int) < 1) then true else decide ((s1.size : Int) > 16)) = false ->
 ∃ (R2 : Rl) (M3 : Mu), R2 [iw 0] H /\ ∀ (n4 : Int) (H5 : PHeap), R2 [iw n4] H5 -> (decide (n4 < (s1.size : Int)) = true -> Ob (0 ≤ n4 /\ n4 < (s1.size : Int)) /\
 ((bif !bif decide (IntKind.i64.wrap (byteAt s1 n4) ≥ 97) then decide (IntKind.i64.wrap (byteAt s1 n4) ≤ 122) else false then
 bif !bif decide (IntKind.i64.wrap (byteAt s1 n4) ≥ 48) then decide (IntKind.i64.wrap (byteAt s1 n4) ≤ 57) else false then bif IntKind.i64.wrap (byteAt s1 n4) != 45 then true else n4 == 0 else false else false) =
 true -> Q (.bool false) H5) /\ ((bif !bif decide (IntKind.i64.wrap (byteAt s1 n4) ≥ 97) then decide (IntKind.i64.wrap (byteAt s1 n4) ≤ 122) else false then
 bif !bif decide (IntKind.i64.wrap (byteAt s1 n4) ≥ 48) then decide (IntKind.i64.wrap (byteAt s1 n4) ≤ 57) else false then bif IntKind.i64.wrap (byteAt s1 n4) != 45 then true else n4 == 0 else false else false) =
 false -> R2 [iw (IntKind.i64.wrap (n4 + 1))] H5 /\ Less (M3 [iw (IntKind.i64.wrap (n4 + 1))] H5) (M3 [iw n4] H5))) /\ (decide (n4 < (s1.size : Int)) = false -> Q (.bool true) H5))) :
 Triple prog 26 ([.string s1]).toArray H Q := Triple.of_vc refRight.cx (by kernel_rfl) h
theorem farS.vc (a1 : Option Addr) (k2 k3 : Nat) (H : PHeap) (Q : Value -> PHeap -> Prop)
 (h : ∃ (R4 : Rl) (M5 : Mu), R4 [iw 0] H /\ ∀ (n6 : Int) (H7 : PHeap), R4 [iw n6] H7 -> ((bif decide (n6 < (k2 : Int)) then decide (n6 < 100) else false) = true -> Ob (a1 ≠ none /\ 0 ≤ n6 /\ n6 < (k2 : Int)) /\ ∃ s8,
 Reads H7 (elemA a1 n6 1) [.string s8] /\ (decide ((s8.size : Int) > 40) = true -> Q (.bool true) H7) /\ (decide ((s8.size : Int) > 40) = false ->
 R4 [iw (IntKind.i64.wrap (n6 + 1))] H7 /\ Less (M5 [iw (IntKind.i64.wrap (n6 + 1))] H7) (M5 [iw n6] H7))) /\
 ((bif decide (n6 < (k2 : Int)) then decide (n6 < 100) else false) = false -> Q (.bool (decide ((k2 : Int) > 60))) H7)) : Triple prog 84 ([sw a1 k2 k3]).toArray H Q := Triple.of_vc farS.cx (by kernel_rfl) h
end Go.Vc
namespace Go.Lab
open Go.Vx Go.Vc Go.Proofs Go.Txt
def signP (c : Int) : Prop := (97 ≤ c ∧ c ≤ 122) ∨ (48 ≤ c ∧ c ≤ 57) ∨ c = 45
/-- A text is a name. -/
def NameP (s : ByteArray) : Prop := 1 ≤ s.size ∧ s.size ≤ 16 ∧ byteAt s 0 ≠ 45 ∧ ∀ i : Nat, i < s.size → signP (byteAt s i)
theorem byteAt_range (s : ByteArray) (i : Int) : 0 ≤ byteAt s i ∧ byteAt s i ≤ 255 := by
  unfold byteAt
  have := UInt8.toNat_lt ((s.data[i.toNat]?).getD 0)
  omega
theorem refRight_ok {H : PHeap} (s : ByteArray) : Triple Tryz.prog 26 #[.string s] H fun v H' => ∃ b, v = .bool b ∧ H' = H ∧ (b = true ↔ NameP s) := by
  refine refRight.vc s H _ ⟨fun hs => ?_, fun hs => ?_⟩
  · refine ⟨_, rfl, rfl, ?_⟩
    simp only [Bool.false_eq_true, false_iff]
    simp only [Bool.cond_eq_ite] at hs
    intro hn
    have := hn.1
    have := hn.2.1
    grind
  · have hsz : 1 ≤ s.size ∧ s.size ≤ 16 := by
      simp only [Bool.cond_eq_ite] at hs
      grind
    refine ⟨fun l H' => match l with | [.int _ i] => 0 ≤ i ∧ i ≤ s.size ∧ H' = H ∧ ∀ j : Nat, (j : Int) < i → signP (byteAt s j) ∧ (j = 0 → byteAt s j ≠ 45) | _ => False, fun l _ => match l with | [.int _ i] => (s.size - i).toNat | _ => 0, ⟨by omega, by omega, rfl, fun j hj => by omega⟩, ?_⟩
    rintro i H1 ⟨i0, i1, rfl, hall⟩
    refine ⟨fun hi => ⟨⟨i0, by simpa using hi⟩, ?_⟩, fun hi => ?_⟩
    · have hi' : i < s.size := by simpa using hi
      have hr := byteAt_range s i
      have ew : IntKind.i64.wrap (byteAt s i) = byteAt s i := wrap64 (by omega) (by omega)
      rw [ew]
      refine ⟨fun h => ⟨_, rfl, rfl, ?_⟩, fun h => ?_⟩
      · simp only [Bool.false_eq_true, false_iff]
        intro hn
        have h1 := hn.2.2.2 i.toNat (by omega)
        rw [show ((i.toNat : Nat) : Int) = i by omega] at h1
        have h2 := hn.2.2.1
        unfold signP at h1
        simp only [Bool.cond_eq_ite] at h
        grind
      · rw [wrapS i0 (by omega)]
        refine ⟨⟨by omega, by omega, rfl, fun j hj => ?_⟩, ⟨by simp only; omega⟩⟩
        by_cases e : (j : Int) = i
        · rw [e]
          unfold signP
          simp only [Bool.cond_eq_ite] at h
          grind
        · exact hall j (by omega)
    · have hi' : ¬ i < s.size := by simpa using hi
      refine ⟨_, rfl, rfl, ?_⟩
      simp only [true_iff]
      exact ⟨hsz.1, hsz.2, (hall 0 (by omega)).2 rfl, fun j hj => (hall j (by omega)).1⟩
theorem less_ok (s t : ByteArray) : Pure Tryz.prog 126 #[.string s, .string t] (.bool (lessS s t)) := fun H => less.vc s t H _ ⟨rfl, rfl⟩
theorem far_ok {H : PHeap} {oa : Option Addr} {n c : Nat} {l : List ByteArray} (hl : RdL H sE 1 oa n l) : Triple Tryz.prog 84 #[.slice oa n c] H fun v H' => ∃ b, v = .bool b ∧ H' = H ∧ (b = false → n ≤ 60 ∧ ∀ x ∈ l, x.size ≤ 40) := by
  have hll := hl.len
  refine farS.vc oa n c H _ ⟨fun l' H' => match l' with | [.int _ i] => 0 ≤ i ∧ i ≤ n ∧ H' = H ∧ ∀ x ∈ l.take i.toNat, x.size ≤ 40 | _ => False, fun l' _ => match l' with | [.int _ i] => (n - i).toNat | _ => 0, ⟨by omega, by omega, rfl, by simp⟩, ?_⟩
  rintro i H1 ⟨i0, i1, rfl, hall⟩
  refine ⟨fun hc => ?_, fun hc => ⟨_, rfl, rfl, fun hb => ?_⟩⟩
  · have hi : i < n ∧ i < 100 := by
      simp only [Bool.cond_eq_ite] at hc
      grind
    obtain ⟨x, hx, hxr⟩ := hl.ex i0 hi.1
    refine ⟨hl.ob i0 hi.1, x, hxr, fun _ => ⟨_, rfl, rfl, fun e => by cases e⟩, fun hs => ?_⟩
    rw [wrapS i0 (by omega)]
    refine ⟨⟨by omega, by omega, rfl, fun y hy => ?_⟩, ⟨by simp only; omega⟩⟩
    rw [show (i + 1).toNat = i.toNat + 1 by omega, List.take_add_one, hx] at hy
    rcases List.mem_append.1 hy with hy | hy
    · exact hall y hy
    · simp at hy
      subst hy
      simp at hs
      omega
  · have hn : n ≤ 60 := by simp at hb; omega
    have hi : ¬ (i < n ∧ i < 100) := by
      simp only [Bool.cond_eq_ite] at hc
      grind
    rw [List.take_of_length_le (by omega)] at hall
    exact ⟨hn, hall⟩
theorem CallY.mono {P : Program} {f : Value} {args : Array Value} {H : PHeap} {Q Q' : Value → PHeap → Prop} (h : CallY P f args H Q) (hq : ∀ v H', Q v H' → Q' v H') : CallY P f args H Q' :=
  ⟨fun w hs => (h.out w hs).imp (fun ⟨g, xs, h1, h2⟩ => ⟨g, xs, h1, h2.mono fun _ _ ⟨v, H', he, hn, hQ⟩ => ⟨v, H', he, hn, hq v H' hQ⟩⟩) fun ⟨l, g, tmps, as_, body, h1, h2⟩ => ⟨l, g, tmps, as_, body, h1, RoundIn.mono h2 fun _ _ ⟨v, H', he, hn, hQ⟩ => ⟨v, H', he, hn, hq v H' hQ⟩⟩⟩
abbrev TT := Sl ByteArray
/-- Lists of texts are read. -/
structure RdT (H : PHeap) (oa : Option Addr) (n : Nat) (ps : List TT) : Prop where
  top : RdL H Sl.E 1 oa n ps
  each : ∀ p ∈ ps, RdL H sE 1 p.oa p.n p.l
theorem RdT.mono {H H' : PHeap} {oa : Option Addr} {n : Nat} {ps : List TT} (h : RdT H oa n ps) (hs : Sub H H') : RdT H' oa n ps := ⟨h.top.mono hs, fun p hp => (h.each p hp).mono hs⟩
def allT (ps : List TT) : List ByteArray := ps.flatMap (·.l)
theorem allT_at {ps : List TT} {i j : Nat} {p : TT} {x : ByteArray} (hp : ps[i]? = some p) (hx : p.l[j]? = some x) : (allT ps)[(allT (ps.take i)).length + j]? = some x := by
  have e : ps = ps.take i ++ p :: ps.drop (i + 1) := by
    have hd : ps.drop i = p :: ps.drop (i + 1) := by rw [List.drop_eq_getElem?_toList_append, hp]; rfl
    rw [← hd, List.take_append_drop]
  have hj := (List.getElem?_eq_some_iff.1 hx).1
  have e2 : ps.flatMap (·.l) = (ps.take i).flatMap (·.l) ++ (p.l ++ (ps.drop (i + 1)).flatMap (·.l)) := by
    conv => lhs; rw [e]
    rw [List.flatMap_append, List.flatMap_cons]
  unfold allT
  rw [e2, List.getElem?_append_right (by omega), Nat.add_sub_cancel_left, List.getElem?_append_left hj]
  exact hx
theorem allT_take {ps : List TT} {i : Nat} {p : TT} (hp : ps[i]? = some p) : (allT (ps.take (i + 1))).length = (allT (ps.take i)).length + p.l.length := by
  unfold allT
  rw [List.take_add_one, hp, List.flatMap_append]
  simp
theorem iter_ok {H : PHeap} {k : Nat} {oa : Option Addr} {n c : Nat} {ps : List TT} (hb : Bx H k 185 [.slice oa n c]) (h : RdT H oa n ps) (hn : n ≤ 100000) (hps : ∀ p ∈ ps, p.n ≤ 100000) :
    IterOk Tryz.prog (.func (.func 177) #[] #[.pointer (at0 k)]) H ((allT ps).map fun s => [Value.string s]) := by
  refine ⟨fun y J X H0 hJ0 hsub hy => CallV.fn (by kernel_rfl) ?_⟩
  have hl := h.top.len
  have hlen : ((allT ps).map fun s => [Value.string s]).length = (allT ps).length := by simp
  refine each1.vc y (at0 k) H0 _ ⟨oa, n, c, (hb.sub (hsub 0 H0 hJ0)).reads, fun t H' => match t with | [.int _ i] => 0 ≤ i ∧ i ≤ n ∧ J (allT (ps.take i.toNat)).length H' | _ => False, fun t _ => match t with | [.int _ i] => (n - i).toNat | _ => 0, ⟨by omega, by omega, by simpa [allT] using hJ0⟩, ?_⟩
  rintro i H1 ⟨i0, i1, hJ1⟩
  obtain ⟨i, rfl⟩ : ∃ j : Nat, i = j := ⟨i.toNat, by omega⟩
  rw [Int.toNat_natCast] at hJ1
  have h1 := h.mono (hsub _ _ hJ1)
  refine ⟨fun hi => ?_, fun hi => ?_⟩
  · have hi' : i < n := by simpa using hi
    obtain ⟨p, hp, hpr⟩ := h1.top.ex (i := (i : Int)) (by omega) (by omega)
    rw [Int.toNat_natCast] at hp
    have hpm := List.mem_of_getElem? hp
    have hpl := (h.each p hpm).len
    have hpn := hps p hpm
    refine ⟨h1.top.ob (by omega) (by omega), p.oa, p.n, p.c, hpr, fun t H' => match t with | [.int _ j] => 0 ≤ j ∧ j ≤ p.n ∧ J ((allT (ps.take i)).length + j.toNat) H' | _ => False, fun t _ => match t with | [.int _ j] => (p.n - j).toNat | _ => 0, ⟨by omega, by omega, by simpa using hJ1⟩, ?_⟩
    rintro j H2 ⟨j0, j1, hJ2⟩
    obtain ⟨j, rfl⟩ : ∃ q : Nat, j = q := ⟨j.toNat, by omega⟩
    rw [Int.toNat_natCast] at hJ2
    have h2 := (h.each p hpm).mono (hsub _ _ hJ2)
    refine ⟨fun hj => ?_, fun hj => ?_⟩
    · have hj' : j < p.n := by simpa using hj
      obtain ⟨x, hx, hxr⟩ := h2.ex (i := (j : Int)) (by omega) (by omega)
      rw [Int.toNat_natCast] at hx
      refine ⟨h2.ob (by omega) (by omega), x, hxr, CallY.mono (hy _ [Value.string x] H2 (by rw [List.getElem?_map, allT_at hp hx]; rfl) hJ2) ?_⟩
      rintro v H3 (⟨rfl, hJ3⟩ | ⟨rfl, hX⟩)
      · refine ⟨true, rfl, fun e => by simp at e, fun _ => ?_⟩
        rw [wrapS (by omega) (by omega)]
        refine ⟨⟨by omega, by omega, ?_⟩, ⟨by simp only; omega⟩⟩
        rw [show ((j : Int) + 1).toNat = j + 1 by omega]
        exact hJ3
      · exact ⟨false, rfl, fun _ => .inr hX, fun e => by simp at e⟩
    · have hj' : ¬ j < p.n := by simpa using hj
      rw [wrapS (by omega) (by omega)]
      refine ⟨⟨by omega, by omega, ?_⟩, ⟨by simp only; omega⟩⟩
      rw [show ((i : Int) + 1).toNat = i + 1 by omega, allT_take hp, hpl, show p.n = j by omega]
      exact hJ2
  · have hi' : ¬ i < n := by simpa using hi
    rw [List.take_of_length_le (by omega)] at hJ1
    rw [hlen]
    exact .inl hJ1
theorem sortS : SortC Tryz.prog 153 (fun l : List UInt8 => Value.string ⟨l.toArray⟩) (fun zs : List (List UInt8) => zs.mergeSort fun x y => decide (x ≤ y)) :=
  ⟨fun blk cap zs w h1 h2 h3 => Tryz.slices_Sort_string blk 0 cap zs w h1 h2 h3, fun cap w => Tryz.slices_Sort_string_none none cap w, fun zs => List.length_mergeSort _⟩
end Go.Lab
namespace Go.Lab
open Go.Vx Go.Vc Go.Proofs Go.Txt
theorem mapS : MapT Tryz.prog 186 (Value.string) (.int .i64 0) := ⟨9, 3, .string, by kernel_rfl, by kernel_rfl, by kernel_rfl, fun _ => trivial, fun a b h => by injection h⟩
abbrev vI (n : Int) : Value := .int .i64 n
theorem flat_str (l : List ByteArray) : l.flatMap sE = (l.map ofB).map (fun l : List UInt8 => Value.string ⟨l.toArray⟩) := by
  induction l with
  | nil => rfl
  | cons x xs ih =>
    rw [List.flatMap_cons, ih]
    cases x
    simp [strE, ofB]
theorem flat_back (l : List (List UInt8)) : l.map (fun l : List UInt8 => Value.string ⟨l.toArray⟩) = (l.map toB).flatMap sE := by
  rw [flat_str]
  rw [List.map_map, List.map_map]
  refine List.map_congr_left fun x _ => ?_
  simp [ofB, toB]
theorem nodup_snoc {α : Type} {l : List α} {x : α} (h : l.Nodup) (hx : x ∉ l) : (l ++ [x]).Nodup := by
  rw [List.nodup_append]
  exact ⟨h, by simp, fun a ha b hb => by simp at hb; rw [hb]; exact fun e => hx (e ▸ ha)⟩
/-- What the loop over the texts has, behind the first ones. -/
structure MSt (H F H' : PHeap) (k7 k9 gb : Nat) (done : List ByteArray) : Prop where
  sub : Sub F H'
  out : ∃ d oa n c o, Mp H' gb Value.string vI d ∧ Bx H' k7 186 [.map (some gb)] ∧ Bx H' k9 49 [.slice oa n c] ∧ OwnL H' 9 sE 1 oa n c o ∧ Off F oa ∧ (∀ a, oa = some a → a.block ≠ k7 ∧ a.block ≠ k9 ∧ a.block ≠ gb) ∧
    o.Nodup ∧ (∀ x, x ∈ o ↔ x ∈ done) ∧ o.length ≤ done.length ∧ (∀ x, (mlook d x).isSome = true ↔ x ∈ done) ∧ ∀ x v, mlook d x = some v → 1 ≤ v ∧ v ≤ done.length
theorem mlook_lay {κ ν : Type} [DecidableEq κ] (l : List (κ × ν)) (k : κ) (v : ν) (x : κ) : mlook (mlay l k v) x = if x = k then some v else mlook l x := by
  unfold mlay
  split
  · rename_i h
    induction l with
    | nil => simp [mlook] at h
    | cons y ys ih =>
      unfold mlook at *
      rw [List.map_cons, List.find?_cons, List.find?_cons]
      by_cases hy : y.1 = k
      · rw [if_pos hy]
        by_cases hx : x = k
        · subst hx; simp
        · have h1 : ¬ k = x := fun e => hx e.symm
          have h2 : ¬ y.1 = x := fun e => hx (e.symm.trans hy)
          simp only [h1, h2, decide_false, hx, if_false]
          by_cases hr : ((ys.find? fun z => decide (z.1 = k)).map (·.2)).isSome = true
          · have := ih hr; rw [if_neg hx] at this; exact this
          · -- no other entry of the key
            have hno : ∀ z ∈ ys, z.1 ≠ k := by
              intro z hz e
              apply hr
              rw [Option.isSome_map, List.find?_isSome]
              exact ⟨z, hz, by simp [e]⟩
            have : ys.map (fun z => if z.1 = k then (k, v) else z) = ys := by
              conv => rhs; rw [← List.map_id ys]
              refine List.map_congr_left fun z hz => ?_
              rw [if_neg (hno z hz)]; rfl
            rw [this]
      · rw [if_neg hy]
        rw [List.find?_cons, show decide (y.1 = k) = false by simp [hy]] at h
        have := ih h
        by_cases hx : y.1 = x
        · have : ¬ x = k := fun e => hy (hx.trans e)
          simp [hx, this]
        · simp only [hx, decide_false]
          exact this
  · rename_i h
    unfold mlook at *
    rw [List.find?_append]
    by_cases hx : x = k
    · subst hx
      have : l.find? (fun z => decide (z.1 = x)) = none := by
        cases hf : l.find? (fun z => decide (z.1 = x)) with
        | none => rfl
        | some z => rw [hf] at h; simp at h
      rw [this]
      simp
    · have : ¬ k = x := fun e => hx e.symm
      rw [if_neg hx]
      cases l.find? (fun z => decide (z.1 = x)) <;> simp [this]
theorem merge_own {H : PHeap} {oa : Option Addr} {n c : Nat} {ps : List TT} (h : RdT H oa n ps) (hn : n ≤ 100000) (hps : ∀ p ∈ ps, p.n ≤ 100000) (hall : (allT ps).length ≤ 100000) :
    Triple Tryz.prog 132 #[.slice oa n c] H fun v H' => ∃ b m k R, v = .slice b m k ∧ RdL H' sE 1 b m R ∧ m ≤ k ∧ Rising R ∧ (∀ x, x ∈ R ↔ x ∈ allT ps) ∧ Sub H H' ∧ Off H b := by
  refine merge.vc oa n c H _ (makeMap_mp fun gb hgb => ⟨some gb, rfl, fun k7 hk7 => ?_⟩)
  have hk7g : k7 ≠ gb := fun e => by rw [e, upd_eq] at hk7; cases hk7
  have hk7H : H k7 = none := by rwa [Vx.upd_ne _ _ hk7g] at hk7
  have b7 : Bx ((H.upd gb (.map #[] 0)).upd k7 (.cells #[.map none] 186)) k7 186 [.map none] := Bx.new _ k7 _ _
  refine ⟨_, b7.writes [.map (some gb)] rfl, fun k9 hk9 => ?_⟩
  have b7' := Bx.new ((H.upd gb (.map #[] 0)).upd k7 (.cells #[.map none] 186)) k7 186 [.map (some gb)]
  have mp0 : Mp (((H.upd gb (.map #[] 0)).upd k7 (.cells #[.map none] 186)).upd k7 (.cells [Value.map (some gb)].toArray 186 (0, 0))) gb Value.string vI [] :=
    (Mp.new H gb _ _).mono fun o ho => by rw [Vx.upd_ne _ _ (fun e => hk7g e.symm), Vx.upd_ne _ _ (fun e => hk7g e.symm)]; exact ho
  have s1 : Sub H (((H.upd gb (.map #[] 0)).upd k7 (.cells #[.map none] 186)).upd k7 (.cells [Value.map (some gb)].toArray 186 (0, 0))) := Bx.sub_of ((Sub.upd _ hgb).trans (Sub.upd _ hk7)) hk7H
  generalize ((H.upd gb (.map #[] 0)).upd k7 (.cells #[.map none] 186)).upd k7 (.cells [Value.map (some gb)].toArray 186 (0, 0)) = H1 at *
  have hk97 : k9 ≠ k7 := fun e => by unfold Bx at b7'; rw [e, b7'] at hk9; cases hk9
  have hk9g : k9 ≠ gb := fun e => by obtain ⟨es, cl, g1, _⟩ := mp0.out; rw [e, g1] at hk9; cases hk9
  have hk9H : H k9 = none := by
    cases e : H k9 with
    | none => rfl
    | some o => rw [s1.le _ _ e] at hk9; cases hk9
  have s2 := Sub.upd (.cells #[.slice none 0 0] 49 (0, 0)) hk9
  have b9 := Bx.new H1 k9 49 [.slice none 0 0]
  have b72 := b7'.sub s2
  have mp2 := mp0.mono fun o ho => s2.le gb o ho
  have s12 := s1.trans s2
  generalize hH2 : H1.upd k9 (.cells #[.slice none 0 0] 49 (0, 0)) = H2 at *
  refine each.vc oa n c H2 _ fun k4 hk4 => ⟨_, rfl, ?_⟩
  have b4 := Bx.new H2 k4 185 [.slice oa n c]
  have hk4H : H k4 = none := by
    cases e : H k4 with
    | none => rfl
    | some o => rw [s12.le _ _ e] at hk4; cases hk4
  have hne7 : k4 ≠ k7 := fun e => by unfold Bx at b72; rw [e, b72] at hk4; cases hk4
  have hne9 : k4 ≠ k9 := fun e => by have := b9; unfold Bx at this; rw [← e, hk4] at this; cases this
  have hneg : k4 ≠ gb := fun e => by obtain ⟨es, cl, g1, _⟩ := mp2.out; rw [e, g1] at hk4; cases hk4
  have hF0 : Bx (H.upd k4 (.cells [Value.slice oa n c].toArray 185 (0, 0))) k4 185 [.slice oa n c] := Bx.new H k4 _ _
  have hHF : Sub H (H.upd k4 (.cells [Value.slice oa n c].toArray 185 (0, 0))) := Sub.upd _ hk4H
  have hF7 : (H.upd k4 (.cells [Value.slice oa n c].toArray 185 (0, 0))) k7 = none := by rw [Vx.upd_ne _ _ (fun e => hne7 e.symm)]; exact hk7H
  have hF9 : (H.upd k4 (.cells [Value.slice oa n c].toArray 185 (0, 0))) k9 = none := by rw [Vx.upd_ne _ _ (fun e => hne9 e.symm)]; exact hk9H
  have hFg : (H.upd k4 (.cells [Value.slice oa n c].toArray 185 (0, 0))) gb = none := by rw [Vx.upd_ne _ _ (fun e => hneg e.symm)]; exact hgb
  have hsubF : Sub (H.upd k4 (.cells [Value.slice oa n c].toArray 185 (0, 0))) (H2.upd k4 (.cells [Value.slice oa n c].toArray 185 (0, 0))) := ⟨fun q o hq => by
    by_cases e : q = k4
    · subst e; rw [upd_eq] at hq ⊢; exact hq
    · rw [Vx.upd_ne _ _ e] at hq ⊢; exact s12.le _ _ hq⟩
  generalize hFdef : H.upd k4 (.cells [Value.slice oa n c].toArray 185 (0, 0)) = F at *
  have s4 := Sub.upd (.cells [Value.slice oa n c].toArray 185 (0, 0)) hk4
  have hit := iter_ok (c := c) hF0 (h.mono hHF) hn hps
  have hlen : ((allT ps).map fun s => [Value.string s]).length = (allT ps).length := by simp
  refine ⟨(allT ps).map fun s => [Value.string s], fun i H' => MSt H F H' k7 k9 gb ((allT ps).take i), fun _ _ => False, F, hsubF, hit, ?_, fun i H' hM => hM.sub, ?_, ?_, ?_, trivial, trivial⟩
  · exact ⟨fun x hx => by obtain ⟨s, _, rfl⟩ := List.mem_map.1 hx; rfl⟩
  · refine ⟨hsubF, [], none, 0, 0, [], mp2.mono fun o ho => s4.le _ _ ho, b72.sub s4, ?_, Owns.nil _ _ 1, Off.none _, fun _ e => (by cases e), List.nodup_nil, by simp, by simp, by simp [mlook], by simp [mlook]⟩
    exact b9.sub s4
  · intro s i H5 hnth hM
    obtain ⟨d, ob, m, q, o, h1, h2, h3, h4, h5, h6, h7, h8, h9, h10, h11⟩ := hM.out
    have hs : (allT ps)[i]? = some s := by
      have := hnth.out
      rw [List.getElem?_map] at this
      cases hx : (allT ps)[i]? with
      | none => rw [hx] at this; cases this
      | some y => rw [hx] at this; simp at this; rw [this]
    have hi : i < (allT ps).length := (List.getElem?_eq_some_iff.1 hs).1
    have htk : (allT ps).take (i + 1) = (allT ps).take i ++ [s] := by rw [List.take_add_one, hs]; rfl
    have hdl : ((allT ps).take i).length = i := by rw [List.length_take]; omega
    rw [hdl] at h9 h11
    have hv0 : 0 ≤ (mlook d s).getD 0 ∧ (mlook d s).getD 0 ≤ i ∧ ((mlook d s).getD 0 = 0 ↔ s ∉ (allT ps).take i) := by
      cases hl : mlook d s with
      | none =>
        have : s ∉ (allT ps).take i := fun hm => by have := (h10 s).2 hm; rw [hl] at this; cases this
        simp [this]
      | some v =>
        have h12 := h11 s v hl
        have : s ∈ (allT ps).take i := (h10 s).1 (by rw [hl]; rfl)
        simp only [Option.getD_some]
        exact ⟨by omega, by omega, fun e => by omega, fun e => absurd this e⟩
    have hgd : ∀ x : Option Int, (x.map vI).getD (.int .i64 0) = vI (x.getD 0) := fun x => by cases x <;> rfl
    refine ⟨some gb, h2.reads, map_get mapS h1 ?_⟩
    rw [if_neg (by simp), hgd]
    have ew : IntKind.i64.wrap ((mlook d s).getD 0 + 1) = (mlook d s).getD 0 + 1 := wrap64 (by omega) (by omega)
    refine ⟨_, rfl, ?_⟩
    rw [ew]
    refine map_put (vE := vI) (v := (mlook d s).getD 0 + 1) mapS h1 fun o' hmp => ?_
    have h2' := h2.upd_ne o' hk7g
    have h3' := h3.upd_ne o' hk9g
    have h4' : OwnL (H5.upd gb o') 9 sE 1 ob m q o := Owns.mono h4 fun a x ha hx => by rw [Vx.upd_ne _ _ (h6 a ha).2.2]; exact hx
    have hs5 : Sub F (H5.upd gb o') := Bx.sub_of hM.sub hFg
    generalize H5.upd gb o' = H6 at *
    have hd10 : ∀ x, (mlook (mlay d s ((mlook d s).getD 0 + 1)) x).isSome = true ↔ x ∈ (allT ps).take (i + 1) := fun x => by
      rw [mlook_lay, htk, List.mem_append, ← h10 x]
      split
      · rename_i e; simp [e]
      · rename_i e; simp [e]
    have hd11 : ∀ x v, mlook (mlay d s ((mlook d s).getD 0 + 1)) x = some v → 1 ≤ v ∧ v ≤ ((allT ps).take (i + 1)).length := fun x v hx => by
      rw [mlook_lay] at hx
      rw [htk, List.length_append, hdl, List.length_singleton]
      split at hx
      · injection hx with hx; omega
      · have := h11 x v hx; omega
    refine ⟨some gb, h2'.reads, map_get mapS hmp ?_⟩
    rw [if_neg (by simp), hgd, mlook_lay, if_pos rfl, Option.getD_some]
    refine ⟨_, rfl, fun h1v => ?_, fun h1v => ?_⟩
    · have hnew : s ∉ (allT ps).take i := hv0.2.2.1 (by have : (mlook d s).getD 0 + 1 = 1 := by simpa using h1v
                                                        omega)
      have hom : o.length = m := (h4'.rd (E := sE) (sz := 1) (by omega) sLen).len
      refine ⟨ob, m, q, h3'.reads, fun k3 hk3 => ?_⟩
      refine append_one tStr hk3 (E := sE) (x := s) sLen h4' rfl (sOne s) (by simp [maxLen]; omega) (by omega) ?_
      intro b2 q2 H7 g7 hf7 hfr7 _
      have h2'' := h2'.frame hf7 fun a ha e => (h6 a ha).1 e.symm
      have h3'' := h3'.frame hf7 fun a ha e => (h6 a ha).2.1 e.symm
      have hmp7 : Mp H7 gb Value.string vI (mlay d s ((mlook d s).getD 0 + 1)) := hmp.mono fun x hx => hf7 gb x hx fun a ha e => (h6 a ha).2.2 e.symm
      have hbl : ∀ a, b2 = some a → a.block ≠ k7 ∧ a.block ≠ k9 ∧ a.block ≠ gb := by
        intro a ha
        rcases hfr7 a ha with ⟨a', ha', e⟩ | hno
        · rw [← e]; exact h6 a' ha'
        · refine ⟨fun e => ?_, fun e => ?_, fun e => ?_⟩
          · have := h2'; unfold Bx at this; rw [← e, hno] at this; cases this
          · have := h3'; unfold Bx at this; rw [← e, hno] at this; cases this
          · obtain ⟨es, cl, g1, _⟩ := hmp.out; rw [← e, hno] at g1; cases g1
      refine ⟨b2, m + 1, q2, rfl, _, h3''.writes [.slice b2 (m + 1) q2] rfl, Bx.sub_of (hf7.sub hs5 h5) hF9, mlay d s ((mlook d s).getD 0 + 1), b2, m + 1, q2, o ++ [s], hmp7.mono fun x hx => by rw [Vx.upd_ne _ _ (fun e => hk9g e.symm)]; exact hx, h2''.upd_ne _ (fun e => hk97 e.symm), Bx.new _ k9 _ _, Owns.mono g7 fun a x ha hx => by rw [Vx.upd_ne _ _ (hbl a ha).2.1]; exact hx, hfr7.off hs5 h5, hbl, nodup_snoc h7 (fun hm => hnew ((h8 s).1 hm)), fun x => ?_, ?_, hd10, hd11⟩
      · rw [htk, List.mem_append, List.mem_append, h8]
      · rw [htk, List.length_append, List.length_append, hdl]; simp; omega
    · have hold : s ∈ (allT ps).take i := Classical.byContradiction fun hno => by
        have := hv0.2.2.2 hno
        rw [this] at h1v
        simp at h1v
      refine ⟨hs5, _, ob, m, q, o, hmp, h2', h3', h4', h5, h6, h7, fun x => ?_, ?_, hd10, hd11⟩
      · rw [htk, List.mem_append, h8]
        constructor
        · exact .inl
        · rintro (hx | hx)
          · exact hx
          · simp at hx; rw [hx]; exact hold
      · rw [htk, List.length_append, hdl]; omega
  · intro H5 hM
    rw [hlen, List.take_of_length_le (Nat.le_refl _)] at hM
    obtain ⟨d, ob, m, q, o, h1, h2, h3, h4, h5, h6, h7, h8, h9, h10, h11⟩ := hM.out
    have hom : o.length = m := (h4.rd (E := sE) (sz := 1) (by omega) sLen).len
    refine ⟨ob, m, q, h3.reads, ?_⟩
    have h4' : Owns H5 9 1 ob m q ((o.map ofB).map (fun l : List UInt8 => Value.string ⟨l.toArray⟩)) := by rw [← flat_str]; exact h4
    refine (sort_ok sortS h4' (by omega)).mono ?_
    rintro _ H6 ⟨rfl, g6, hf6⟩
    rw [flat_back] at g6
    have hR := sorted_rising h7
    exact ⟨rfl, ob, m, q, (h3.frame hf6 fun a ha e => (h6 a ha).2.1 e.symm).reads, ob, m, q, _, rfl, Owns.rd (E := sE) (sz := 1) (by omega) sLen g6, h4.le, hR.1, fun x => (hR.2 x).trans (h8 x), hHF.trans (hf6.sub hM.sub h5), fun a ha => by
      have := h5 a ha
      cases hh : H a.block with
      | none => rfl
      | some o => rw [hHF.le _ _ hh] at this; cases this⟩
end Go.Lab
namespace Go.Vc
open Go.Vx Go Go.Proofs.Tryz
def pAfter.cx : Cx := ⟨[], [], [], []⟩
def pNames.cx : Cx := ⟨[], [], [], []⟩
def pSus.cx : Cx := ⟨[], [], [], []⟩
def pEnough.cx : Cx := ⟨[], [(5, [7, 20], [])], [], []⟩
def pTurn.cx : Cx := ⟨[5, 6], [(7, [21], []), (15, [51], [])], [], []⟩
def pTurn1.cx : Cx := ⟨[], [], [], []⟩
def pTurn2.cx : Cx := ⟨[], [], [], []⟩
def listed.cx : Cx := ⟨[], [], [], []⟩
def listed1.cx : Cx := ⟨[], [], [], []⟩
def state.cx : Cx := ⟨[], [], [], []⟩
def whole.cx : Cx := ⟨[], [], [], []⟩
def maxS.cx : Cx := ⟨[], [(5, [3, 4], [])], [], []⟩
def delS.cx : Cx := ⟨[], [(5, [5, 6], [])], [], []⟩
def idxFS.cx : Cx := ⟨[], [(2, [8], [])], [], []⟩
def cloneS.cx : Cx := ⟨[], [], [], []⟩
theorem pAfter.vc (a1 : Option Addr) (H : PHeap) (Q : Value -> PHeap -> Prop)
 (h : (a1.isNone = true -> Q (.string ({ data := #[] } : ByteArray)) H) /\ (a1.isNone = false -> Ob (a1 ≠ none) /\ Ob (a1 ≠ none) /\ ∃ s2, Reads H (fldA a1 1) [.string s2] /\ Q (.string s2) H)) :
 Triple prog 55 ([.pointer a1]).toArray H Q := Triple.of_vc pAfter.cx (by kernel_rfl) h
theorem pNames.vc (a1 : Option Addr) (H : PHeap) (Q : Value -> PHeap -> Prop)
 (h : (a1.isNone = true -> Q (sw none 0 0) H) /\ (a1.isNone = false -> Ob (a1 ≠ none) /\ Ob (a1 ≠ none) /\
 ∃ a2 k3 k4, Reads H (fldA a1 0) [sw a2 k3 k4] /\ Triple prog 130 #[sw a2 k3 k4] H fun v5 H6 => ∃ a7 k8 k9, v5 = sw a7 k8 k9 /\ Q (sw a7 k8 k9) H6)) : Triple prog 89 ([.pointer a1]).toArray H Q :=
 Triple.of_vc pNames.cx (by kernel_rfl) h
theorem pSus.vc (a1 : Option Addr) (H : PHeap) (Q : Value -> PHeap -> Prop)
 (h : (a1.isNone = true -> Q (sw none 0 0) H) /\ (a1.isNone = false -> Ob (a1 ≠ none) /\ Ob (a1 ≠ none) /\
 ∃ a2 k3 k4, Reads H (fldA a1 2) [sw a2 k3 k4] /\ Triple prog 133 #[sw a2 k3 k4] H fun v5 H6 => ∃ a7 k8 k9, v5 = sw a7 k8 k9 /\ Q (sw a7 k8 k9) H6)) : Triple prog 90 ([.pointer a1]).toArray H Q :=
 Triple.of_vc pSus.cx (by kernel_rfl) h
theorem pEnough.vc (a1 : Option Addr) (n2 n3 n4 n5 n6 n7 : Int) (a8 : Option Addr) (k9 k10 : Nat) (H : PHeap) (Q : Value -> PHeap -> Prop)
 (h : (a1.isNone = false -> Triple prog 19 #[.agg #[iw n2, iw n3, iw n4, iw n5, iw n6, iw n7]] H fun v11 H12 => ∃ b13, v11 = .bool b13 /\ ((!b13) = true -> Q (.bool false) H12) /\ ((!b13) = false ->
 Triple prog 122 #[sw a8 k9 k10] H12 fun v14 H15 => ∃ a16 k17 k18, v14 = sw a16 k17 k18 /\ ∃ (R19 : Rl) (M20 : Mu), R19 [iw 0, iw 0] H15 /\ ∀ (n21 n22 : Int) (H23 : PHeap), R19 [iw n21, iw n22] H23 ->
 (decide (n22 < (k17 : Int)) = true -> Ob (a16 ≠ none /\ 0 ≤ n22 /\ n22 < (k17 : Int)) /\ ∃ n24 n25 n26 n27 s28 n29 n30 n31 n32 n33 a34 k35 k36 a37 k38 k39 a40 k41 k42, Reads H23 (elemA a16 n22 13)
 [iw n24, iw n25, iw n26, iw n27, .string s28, iw n29, iw n30, iw n31, iw n32, iw n33, sw a34 k35 k36, sw a37 k38 k39, sw a40 k41 k42] /\ Triple prog 123 #[Value.agg
 #[iw n24, iw n25, iw n26, iw n27, .string s28, iw n29, iw n30, iw n31, iw n32, iw n33, sw a34 k35 k36, sw a37 k38 k39, sw a40 k41 k42]] H23 fun v43 H44 => ∃ n45, v43 = iw n45 /\
 R19 [iw (bif n45 == 1 then IntKind.i64.wrap (n21 + 1) else n21), iw (IntKind.i64.wrap (n22 + 1))] H44 /\ Less (M20 [iw (bif n45 == 1 then IntKind.i64.wrap (n21 + 1) else n21), iw (IntKind.i64.wrap (n22 + 1))] H44)
 (M20 [iw n21, iw n22] H23)) /\ (decide (n22 < (k17 : Int)) = false -> Triple prog 124 #[Value.agg #[iw n2, iw n3, iw n4, iw n5, iw n6, iw n7]]
 H23 fun v46 H47 => ∃ n48, v46 = iw n48 /\ Q (.bool (decide (n21 ≥ n48))) H47))) /\ (a1.isNone = !false -> Q (.bool false) H)) : Triple prog 87 ([.pointer a1, .agg #[iw n2, iw n3, iw n4, iw n5, iw n6, iw n7],
 sw a8 k9 k10]).toArray H Q := Triple.of_vc pEnough.cx (by kernel_rfl) h
theorem pTurn.vc (a1 : Option Addr) (a2 : Option Addr) (k3 k4 : Nat) (H : PHeap) (Q : Value -> PHeap -> Prop)
 (h : (a1.isNone = true -> Q (.bool false) H) /\ (a1.isNone = false -> ∀ (k5 : Nat), H k5 = none -> ∀ (k6 : Nat), H.upd k5 (Obj.cells #[.string ({ data := #[] } : ByteArray)] 9) k6 = none -> ∃ H7,
 Writes ((H.upd k5 (Obj.cells #[.string ({ data := #[] } : ByteArray)] 9)).upd k6 (Obj.cells #[.bool false] 4)) H7 (at0 k5) [.string ({ data := #[] } : ByteArray)] /\ ∃ H8, Writes H7 H8 (at0 k6) [.bool true] /\
 Triple prog 122 #[sw a2 k3 k4] H8 fun v9 H10 => ∃ a11 k12 k13, v9 = sw a11 k12 k13 /\ ∃ (R14 : Rl) (M15 : Mu), R14 [iw 0] H10 /\ ∀ (n16 : Int) (H17 : PHeap), R14 [iw n16] H17 -> (decide (n16 < (k12 : Int)) = true ->
 Ob (a11 ≠ none /\ 0 ≤ n16 /\ n16 < (k12 : Int)) /\ ∃ n18 n19 n20 n21 s22 n23 n24 n25 n26 n27 a28 k29 k30 a31 k32 k33 a34 k35 k36, Reads H17 (elemA a11 n16 13) [iw n18, iw n19, iw n20, iw n21, .string s22, iw n23,
 iw n24, iw n25, iw n26, iw n27, sw a28 k29 k30, sw a31 k32 k33, sw a34 k35 k36] /\ Triple prog 123 #[Value.agg #[iw n18, iw n19, iw n20, iw n21, .string s22, iw n23, iw n24, iw n25, iw n26, iw n27,
 sw a28 k29 k30, sw a31 k32 k33, sw a34 k35 k36]] H17 fun v37 H38 => ∃ n39, v37 = iw n39 /\ ((n39 == 2) = true -> ∃ H40, Vx.Sub H40 H38 /\ Ob (a1 ≠ none) /\ Ob (a1 ≠ none) /\ ∃ a41 k42 k43,
 Reads H40 (fldA a1 2) [sw a41 k42 k43] /\ ∀ (k44 : Nat), H38 k44 = none -> Vx.Sub H40 (H38.upd k44 (Obj.cells #[iw n19] 3)) /\ EvV prog (Builtin.append_ #[42, 42] 42 #[sw a41 k42 k43, sw (at0 k44) 1 1])
 (H38.upd k44 (Obj.cells #[iw n19] 3)) fun v45 H46 => ∃ a47 k48 k49, v45 = sw a47 k48 k49 /\ Triple prog 61 #[sw a47 k48 k49, sw none 0 0] H46 fun v50 H51 => ∃ a52 k53 k54, v50 = sw a52 k53 k54 /\ Ob (a1 ≠ none) /\
 Ob (a1 ≠ none) /\ ∃ H55, Writes H51 H55 (fldA a1 2) [sw a52 k53 k54] /\ Triple prog 127 #[Value.agg #[iw n18, iw n19, iw n20, iw n21, .string s22, iw n23, iw n24, iw n25, iw n26, iw n27,
 sw a28 k29 k30, sw a31 k32 k33, sw a34 k35 k36]] H55 fun v56 H57 => ∃ b58, v56 = .bool b58 /\ ((!b58) = true -> Triple prog 128 #[sw a31 k32 k33] H57 fun v59 H60 => ∃ s61, v59 = .string s61 /\ Triple prog 125
 #[.string s61, .pointer (at0 k6), .pointer (at0 k5)] H60 fun v62 H63 => v62 = .tuple #[] /\ R14 [iw (IntKind.i64.wrap (n16 + 1))] H63 /\ Less (M15 [iw (IntKind.i64.wrap (n16 + 1))] H63) (M15 [iw n16] H17)) /\
 ((!b58) = false -> R14 [iw (IntKind.i64.wrap (n16 + 1))] H57 /\ Less (M15 [iw (IntKind.i64.wrap (n16 + 1))] H57) (M15 [iw n16] H17))) /\ ((n39 == 2) = false -> Triple prog 127 #[Value.agg
 #[iw n18, iw n19, iw n20, iw n21, .string s22, iw n23, iw n24, iw n25, iw n26, iw n27, sw a28 k29 k30, sw a31 k32 k33, sw a34 k35 k36]] H38 fun v64 H65 => ∃ b66, v64 = .bool b66 /\ ((!b66) = true ->
 Triple prog 128 #[sw a31 k32 k33] H65 fun v67 H68 => ∃ s69, v67 = .string s69 /\ Triple prog 125 #[.string s69, .pointer (at0 k6), .pointer (at0 k5)] H68 fun v70 H71 => v70 = .tuple #[] /\
 R14 [iw (IntKind.i64.wrap (n16 + 1))] H71 /\ Less (M15 [iw (IntKind.i64.wrap (n16 + 1))] H71) (M15 [iw n16] H17)) /\ ((!b66) = false -> R14 [iw (IntKind.i64.wrap (n16 + 1))] H65 /\
 Less (M15 [iw (IntKind.i64.wrap (n16 + 1))] H65) (M15 [iw n16] H17)))) /\ (decide (n16 < (k12 : Int)) = false -> ∃ (R72 : Rl) (M73 : Mu), R72 [iw 0] H17 /\ ∀ (n74 : Int) (H75 : PHeap), R72 [iw n74] H75 ->
 (decide (n74 < (k12 : Int)) = true -> Ob (a11 ≠ none /\ 0 ≤ n74 /\ n74 < (k12 : Int)) /\ ∃ n76 n77 n78 n79 s80 n81 n82 n83 n84 n85 a86 k87 k88 a89 k90 k91 a92 k93 k94, Reads H75 (elemA a11 n74 13)
 [iw n76, iw n77, iw n78, iw n79, .string s80, iw n81, iw n82, iw n83, iw n84, iw n85, sw a86 k87 k88, sw a89 k90 k91, sw a92 k93 k94] /\ Triple prog 130 #[sw a89 k90 k91] H75 fun v95 H96 => ∃ a97 k98 k99,
 v95 = sw a97 k98 k99 /\ Triple prog 129 #[sw a97 k98 k99, Value.func (Fn.func 131) #[] #[.pointer (at0 k6), .pointer (at0 k5)]] H96 fun v100 H101 => ∃ a102 k103 k104, v100 = sw a102 k103 k104 /\ Ob (a1 ≠ none) /\
 Ob (a1 ≠ none) /\ ∃ a105 k106 k107, Reads H101 (fldA a1 0) [sw a105 k106 k107] /\ ∀ (k108 : Nat), H101 k108 = none -> Triple prog 132 #[sw (at0 k108) 2 2]
 (H101.upd k108 (Obj.cells #[sw a105 k106 k107, sw a102 k103 k104] 49)) fun v109 H110 => ∃ a111 k112 k113, v109 = sw a111 k112 k113 /\ Ob (a1 ≠ none) /\ Ob (a1 ≠ none) /\ ∃ H114,
 Writes H110 H114 (fldA a1 0) [sw a111 k112 k113] /\ R72 [iw (IntKind.i64.wrap (n74 + 1))] H114 /\ Less (M73 [iw (IntKind.i64.wrap (n74 + 1))] H114) (M73 [iw n74] H75)) /\ (decide (n74 < (k12 : Int)) = false -> ∃ b115,
 Reads H75 (at0 k6) [.bool b115] /\ ((!b115) = true -> ∃ s116, Reads H75 (at0 k5) [.string s116] /\ Ob (a1 ≠ none) /\ Ob (a1 ≠ none) /\ ∃ H117, Writes H75 H117 (fldA a1 1) [.string s116] /\
 ∃ b118, Reads H117 (at0 k6) [.bool b118] /\ Q (.bool b118) H117) /\ ((!b115) = false -> ∃ b119, Reads H75 (at0 k6) [.bool b119] /\ Q (.bool b119) H75))))) : Triple prog 88 ([.pointer a1, sw a2 k3 k4]).toArray H Q :=
 Triple.of_vc pTurn.cx (by kernel_rfl) h
theorem pTurn1.vc (s1 : ByteArray) (a2 : Option Addr) (a3 : Option Addr) (H : PHeap) (Q : Value -> PHeap -> Prop)
 (h : ∃ b4, Reads H a2 [.bool b4] /\ (b4 = false -> ∃ s5, Reads H a3 [.string s5] /\ Triple prog 126 #[.string s1, .string s5] H fun v6 H7 => ∃ b8, v6 = .bool b8 /\
 (b8 = true -> ∃ H9, Writes H7 H9 a3 [.string s1] /\ ∃ H10, Writes H9 H10 a2 [.bool false] /\ Q (.tuple #[]) H10) /\ (b8 = false -> Q (.tuple #[]) H7)) /\
 (b4 = !false -> ∃ H11, Writes H H11 a3 [.string s1] /\ ∃ H12, Writes H11 H12 a2 [.bool false] /\ Q (.tuple #[]) H12)) : Triple prog 125 ([.string s1, .pointer a2, .pointer a3]).toArray H Q :=
 Triple.of_vc pTurn1.cx (by kernel_rfl) h
theorem pTurn2.vc (s1 : ByteArray) (a2 : Option Addr) (a3 : Option Addr) (H : PHeap) (Q : Value -> PHeap -> Prop)
 (h : ∃ b4, Reads H a2 [.bool b4] /\ ((!b4) = true -> ∃ s5, Reads H a3 [.string s5] /\ Triple prog 126 #[.string s5, .string s1] H fun v6 H7 => ∃ b8, v6 = .bool b8 /\ Q (.bool b8) H7) /\
 ((!b4) = !true -> Q (.bool false) H)) : Triple prog 131 ([.string s1, .pointer a2, .pointer a3]).toArray H Q := Triple.of_vc pTurn2.cx (by kernel_rfl) h
theorem listed.vc (a1 : Option Addr) (k2 k3 : Nat) (H : PHeap) (Q : Value -> PHeap -> Prop)
 (h : Triple prog 106 #[sw a1 k2 k3] H fun v4 H5 => ∃ a6 k7 k8, v4 = sw a6 k7 k8 /\
 Triple prog 70 #[sw a6 k7 k8, Value.func (Fn.func 149) #[] #[]] H5 fun v9 H10 => ∃ a11 k12 k13, v9 = sw a11 k12 k13 /\ Q (sw a11 k12 k13) H10) : Triple prog 122 ([sw a1 k2 k3]).toArray H Q :=
 Triple.of_vc listed.cx (by kernel_rfl) h
theorem listed1.vc (n1 n2 n3 n4 : Int) (s5 : ByteArray) (n6 n7 n8 n9 n10 : Int) (a11 : Option Addr) (k12 k13 : Nat) (a14 : Option Addr) (k15 k16 : Nat) (a17 : Option Addr) (k18 k19 : Nat) (H : PHeap) (Q : Value -> PHeap -> Prop)
 (h : Q (.bool (n1 != 20)) H) : Triple prog 149 ([Value.agg #[iw n1, iw n2, iw n3, iw n4, .string s5, iw n6, iw n7, iw n8, iw n9, iw n10, sw a11 k12 k13, sw a14 k15 k16, sw a17 k18 k19]]).toArray H Q :=
 Triple.of_vc listed1.cx (by kernel_rfl) h
theorem state.vc (n1 n2 n3 n4 : Int) (s5 : ByteArray) (n6 n7 n8 n9 n10 : Int) (a11 : Option Addr) (k12 k13 : Nat) (a14 : Option Addr) (k15 k16 : Nat) (a17 : Option Addr) (k18 k19 : Nat) (H : PHeap) (Q : Value -> PHeap -> Prop)
 (h : (((k12 : Int) == 0) = true -> Q (iw 0) H) /\ (((k12 : Int) == 0) = false -> Ob (a11 ≠ none /\ (0 : Int) ≤ 0 /\ 0 < (k12 : Int)) /\ ∃ n20, Reads H (elemA a11 0 1) [iw n20] /\ Q (iw n20) H)) :
 Triple prog 123 ([Value.agg #[iw n1, iw n2, iw n3, iw n4, .string s5, iw n6, iw n7, iw n8, iw n9, iw n10, sw a11 k12 k13, sw a14 k15 k16, sw a17 k18 k19]]).toArray H Q := Triple.of_vc state.cx (by kernel_rfl) h
theorem whole.vc (n1 n2 n3 n4 : Int) (s5 : ByteArray) (n6 n7 n8 n9 n10 : Int) (a11 : Option Addr) (k12 k13 : Nat) (a14 : Option Addr) (k15 k16 : Nat) (a17 : Option Addr) (k18 k19 : Nat) (H : PHeap) (Q : Value -> PHeap -> Prop)
 (h : Q (.bool (bif n10 == 1 then true else (k15 : Int) == 0)) H) : Triple prog 127 ([Value.agg #[iw n1, iw n2, iw n3, iw n4, .string s5, iw n6, iw n7,
 iw n8, iw n9, iw n10, sw a11 k12 k13, sw a14 k15 k16, sw a17 k18 k19]]).toArray H Q := Triple.of_vc whole.cx (by kernel_rfl) h
theorem maxS.vc (a1 : Option Addr) (k2 k3 : Nat) (H : PHeap) (Q : Value -> PHeap -> Prop)
 (h : (decide ((k2 : Int) < 1) = true -> False) /\ (decide ((k2 : Int) < 1) = false -> Ob (a1 ≠ none /\ (0 : Int) ≤ 0 /\ 0 < (k2 : Int)) /\ ∃ s4, Reads H (elemA a1 0 1) [.string s4] /\ ∃ (R5 : Rl) (M6 : Mu),
 R5 [.string s4, iw 1] H /\ ∀ (s7 : ByteArray) (n8 : Int) (H9 : PHeap), R5 [.string s7, iw n8] H9 -> (decide (n8 < (k2 : Int)) = true -> Ob (a1 ≠ none /\ 0 ≤ n8 /\ n8 < (k2 : Int)) /\ ∃ s10,
 Reads H9 (elemA a1 n8 1) [.string s10] /\ R5 [.string (maxT s7 s10), iw (IntKind.i64.wrap (n8 + 1))] H9 /\ Less (M6 [.string (maxT s7 s10), iw (IntKind.i64.wrap (n8 + 1))] H9) (M6 [.string s7, iw n8] H9)) /\
 (decide (n8 < (k2 : Int)) = false -> Q (.string s7) H9))) : Triple prog 128 ([sw a1 k2 k3]).toArray H Q := Triple.of_vc maxS.cx (by kernel_rfl) h
theorem delS.vc (a1 : Option Addr) (k2 k3 : Nat) (v4 : Value) (H : PHeap) (Q : Value -> PHeap -> Prop)
 (h : Triple prog 151 #[sw a1 k2 k3, v4] H fun v5 H6 => ∃ n7, v5 = iw n7 /\ ((n7 == -1) = true -> Q (sw a1 k2 k3) H6) /\ ((n7 == -1) = false -> ∃ (R8 : Rl) (M9 : Mu), R8 [iw n7, iw (IntKind.i64.wrap (n7 + 1))] H6 /\
 ∀ (n10 n11 : Int) (H12 : PHeap), R8 [iw n10, iw n11] H12 -> (decide (n11 < (k2 : Int)) = true -> Ob (a1 ≠ none /\ 0 ≤ n11 /\ n11 < (k2 : Int)) /\ ∃ s13, Reads H12 (elemA a1 n11 1) [.string s13] /\
 CallY prog v4 #[.string s13] H12 fun v14 H15 => ∃ b16, v14 = .bool b16 /\ ((!b16) = true -> Ob (a1 ≠ none /\ 0 ≤ n10 /\ n10 < (k2 : Int)) /\ ∃ H17, Writes H15 H17 (elemA a1 n10 1) [.string s13] /\
 R8 [iw (IntKind.i64.wrap (n10 + 1)), iw (IntKind.i64.wrap (n11 + 1))] H17 /\ Less (M9 [iw (IntKind.i64.wrap (n10 + 1)), iw (IntKind.i64.wrap (n11 + 1))] H17) (M9 [iw n10, iw n11] H12)) /\ ((!b16) = false ->
 R8 [iw n10, iw (IntKind.i64.wrap (n11 + 1))] H15 /\ Less (M9 [iw n10, iw (IntKind.i64.wrap (n11 + 1))] H15) (M9 [iw n10, iw n11] H12))) /\ (decide (n11 < (k2 : Int)) = false ->
 Ob (0 ≤ n10 /\ n10 ≤ (k2 : Int) /\ (k2 : Int) ≤ (k3 : Int)) /\ EvV prog (Builtin.clear_ #[49] 0 #[sw (slA a1 n10 k3 1) ((k2 : Int).toNat - n10.toNat) (k3 - n10.toNat)]) H12 fun v18 H19 =>
 Ob ((0 : Int) ≤ 0 /\ 0 ≤ n10 /\ n10 ≤ (k3 : Int)) /\ Q (sw (slA a1 0 k3 1) (n10.toNat - Int.toNat 0) (k3 - Int.toNat 0)) H19))) : Triple prog 129 ([sw a1 k2 k3, v4]).toArray H Q :=
 Triple.of_vc delS.cx (by kernel_rfl) h
theorem idxFS.vc (a1 : Option Addr) (k2 k3 : Nat) (v4 : Value) (H : PHeap) (Q : Value -> PHeap -> Prop)
 (h : ∃ (R5 : Rl) (M6 : Mu), R5 [iw 0] H /\ ∀ (n7 : Int) (H8 : PHeap), R5 [iw n7] H8 -> (decide (n7 < (k2 : Int)) = true -> Ob (a1 ≠ none /\ 0 ≤ n7 /\ n7 < (k2 : Int)) /\ ∃ s9, Reads H8 (elemA a1 n7 1) [.string s9] /\
 CallY prog v4 #[.string s9] H8 fun v10 H11 => ∃ b12, v10 = .bool b12 /\ (b12 = true -> Q (iw n7) H11) /\ (b12 = false ->
 R5 [iw (IntKind.i64.wrap (n7 + 1))] H11 /\ Less (M6 [iw (IntKind.i64.wrap (n7 + 1))] H11) (M6 [iw n7] H8))) /\ (decide (n7 < (k2 : Int)) = false -> Q (iw (-1)) H8)) : Triple prog 151 ([sw a1 k2 k3, v4]).toArray H Q :=
 Triple.of_vc idxFS.cx (by kernel_rfl) h
theorem cloneS.vc (a1 : Option Addr) (k2 k3 : Nat) (H : PHeap) (Q : Value -> PHeap -> Prop)
 (h : (a1.isNone = true -> Q (sw none 0 0) H) /\ (a1.isNone = false -> ∀ (k4 : Nat), H k4 = none -> EvV prog (Builtin.append_ #[49, 49] 49 #[sw (at0 k4) 0 0, sw a1 k2 k3]) (H.upd k4 (Obj.cells #[] 9)) fun v5 H6 =>
 ∃ a7 k8 k9, v5 = sw a7 k8 k9 /\ Q (sw a7 k8 k9) H6)) : Triple prog 130 ([sw a1 k2 k3]).toArray H Q := Triple.of_vc cloneS.cx (by kernel_rfl) h
end Go.Vc
namespace Go.Page
open Go.Vx Go.Vc Go.Proofs Go.Txt Go.Lab
abbrev Msg := Rnd.Msg
abbrev mE := Rnd.mE
abbrev noS : ByteArray := ⟨#[]⟩
theorem zS : ∀ i z, Tryz.prog.info? 9 = some i → i.zero = some z → z.cells.toList = sE noS := fun i z hi hz => by
  have h0 : (Tryz.prog.info? 9).bind (·.zero) = some (.string noS) := by kernel_rfl
  rw [hi] at h0
  simp [hz] at h0
  subst h0
  rfl
theorem cloneS_ok {H : PHeap} {oa : Option Addr} {n c : Nat} {l : List ByteArray} (hl : RdL H sE 1 oa n l) (hn : n ≤ 100000) :
    Triple Tryz.prog 130 #[.slice oa n c] H fun v H' => ∃ b k, v = .slice b n k ∧ OwnL H' 9 sE 1 b n k l ∧ Sub H H' ∧ Off H b := by
  refine cloneS.vc oa n c H _ ⟨fun h => ?_, fun h k4 hk4 => ?_⟩
  · have ho : oa = none := by simpa using h
    have hn0 := hl.pos ho
    have hl0 : l = [] := List.eq_nil_of_length_eq_zero (by rw [hl.len, hn0])
    subst hl0 hn0
    exact ⟨none, 0, rfl, Owns.nil _ _ 1, Sub.refl H, Off.none _⟩
  · have hsk := Sub.upd (.cells #[] 9 (0, 0)) hk4
    refine append_rd tStr (E := sE) (l := []) sLen (Owns.empty H k4 _ 1) (hl.mono hsk) sOne (by simp [maxLen]; omega) (by omega) ?_
    intro b k H2 how hf hfr
    rw [List.nil_append] at how
    rw [Nat.zero_add] at how ⊢
    exact ⟨b, n, k, rfl, b, k, rfl, how, hf.sub hsk (off_at0 hk4), hfr.off hsk (off_at0 hk4)⟩
theorem idxFS_ok {F H : PHeap} {oa : Option Addr} {n c : Nat} {l : List ByteArray} {f : Value} {p : ByteArray → Bool} (hF : Sub F H) (hl : RdL H sE 1 oa n l) (hn : n ≤ 100000) (hf : Rnd.Tells F f Value.string p) :
    Triple Tryz.prog 151 #[.slice oa n c, f] H fun v H' => ∃ i : Int, v = .int .i64 i ∧ Sub H H' ∧ ((i = -1 ∧ l.any p = false) ∨ ∃ (j : Nat) (x : ByteArray), i = j ∧ l[j]? = some x ∧ p x = true ∧ (l.take j).any p = false) := by
  have hll := hl.len
  refine idxFS.vc oa n c f H _ ⟨fun t H' => match t with | [.int _ i] => 0 ≤ i ∧ i ≤ n ∧ Sub H H' ∧ (l.take i.toNat).any p = false | _ => False, fun t _ => match t with | [.int _ i] => (n - i).toNat | _ => 0, ⟨by omega, by omega, Sub.refl _, by simp⟩, ?_⟩
  rintro i H1 ⟨i0, i1, hs, hno⟩
  obtain ⟨i, rfl⟩ : ∃ j : Nat, i = j := ⟨i.toNat, by omega⟩
  rw [Int.toNat_natCast] at hno
  have hl1 := hl.mono hs
  refine ⟨fun hi => ?_, fun hi => ?_⟩
  · have hi' : i < n := by simpa using hi
    obtain ⟨y, hy, hyr⟩ := hl1.ex (i := (i : Int)) (by omega) (by omega)
    rw [Int.toNat_natCast] at hy
    refine ⟨hl1.ob (by omega) (by omega), y, hyr, hf H1 y _ (hF.trans hs) fun H2 hs2 => ⟨_, rfl, fun he => ⟨_, rfl, hs.trans hs2, .inr ⟨i, _, rfl, hy, he, hno⟩⟩, fun he => ?_⟩⟩
    rw [wrapS (by omega) (by omega)]
    refine ⟨⟨by omega, by omega, hs.trans hs2, ?_⟩, ⟨by simp only; omega⟩⟩
    rw [show ((i : Int) + 1).toNat = i + 1 by omega, List.take_add_one, hy, List.any_append, hno]
    simp [he]
  · have : ¬ i < n := by simpa using hi
    rw [List.take_of_length_le (by omega)] at hno
    exact ⟨_, rfl, hs, .inl ⟨rfl, hno⟩⟩
theorem delS_own {F H : PHeap} {oa : Option Addr} {n c : Nat} {l : List ByteArray} {f : Value} {p : ByteArray → Bool} (hF : Sub F H) (ho : Off F oa) (how : OwnL H 9 sE 1 oa n c l) (hn : n ≤ 100000) (hf : Rnd.Tells F f Value.string p) :
    Triple Tryz.prog 129 #[.slice oa n c, f] H fun v H' => ∃ m k, v = .slice oa m k ∧ RdL H' sE 1 oa m (l.filter fun x => !p x) ∧ Sub F H' := by
  have hrd := how.rd (E := sE) (sz := 1) (by omega) sLen
  have hll := hrd.len
  have hcap := how.le
  refine delS.vc oa n c f H _ ((idxFS_ok hF hrd hn hf).mono ?_)
  rintro _ H1 ⟨i, rfl, hs1, hor⟩
  have how1 : OwnL H1 9 sE 1 oa n c l := Owns.mono how fun a o _ hb => hs1.le _ _ hb
  rcases hor with ⟨rfl, hno⟩ | ⟨j, x, rfl, hx, hp, hno⟩
  · refine ⟨_, rfl, fun _ => ⟨n, c, rfl, ?_, hF.trans hs1⟩, fun h => by simp at h⟩
    rw [Rnd.filter_none hno]
    exact hrd.mono hs1
  · have hjn : j < n := by rw [← hll]; exact (List.getElem?_eq_some_iff.1 hx).1
    refine ⟨_, rfl, fun h => by simp at h, fun _ => ?_⟩
    refine ⟨fun t H' => match t with | [.int _ i, .int _ q] => 0 ≤ i ∧ i < q ∧ q ≤ n ∧ Sub F H' ∧ ∃ l' : List ByteArray, OwnL H' 9 sE 1 oa n c l' ∧ l'.take i.toNat = (l.take q.toNat).filter (fun x => !p x) ∧ l'.drop q.toNat = l.drop q.toNat | _ => False, fun t _ => match t with | [_, .int _ q] => (n - q).toNat | _ => 0, ?_, ?_⟩
    · rw [wrapS (by omega) (by omega)]
      refine ⟨by omega, by omega, by omega, hF.trans hs1, l, how1, ?_, rfl⟩
      rw [Int.toNat_natCast, show ((j : Int) + 1).toNat = j + 1 by omega, List.take_add_one, hx, List.filter_append, Rnd.filter_none hno]
      simp [hp]
    · rintro i q H2 ⟨i0, i1, i2, hs2, l', how2, ht, hd⟩
      obtain ⟨i, rfl⟩ : ∃ j : Nat, i = j := ⟨i.toNat, by omega⟩
      obtain ⟨q, rfl⟩ : ∃ j : Nat, q = j := ⟨q.toNat, by omega⟩
      rw [Int.toNat_natCast, Int.toNat_natCast] at ht
      rw [Int.toNat_natCast] at hd
      have hrd2 := how2.rd (E := sE) (sz := 1) (by omega) sLen
      have hll2 := hrd2.len
      refine ⟨fun hi => ?_, fun hi => ?_⟩
      · have hq' : q < n := by simpa using hi
        obtain ⟨y, hy, hyr⟩ := hrd2.ex (i := (q : Int)) (by omega) (by omega)
        rw [Int.toNat_natCast] at hy
        have hyl : l[q]? = some y := by
          have h1 : (l'.drop q)[0]? = (l.drop q)[0]? := by rw [hd]
          rw [List.getElem?_drop, List.getElem?_drop, Nat.add_zero, hy] at h1
          exact h1.symm
        have htk : l.take (q + 1) = l.take q ++ [y] := by rw [List.take_add_one, hyl]; rfl
        have hdr : l'.drop (q + 1) = l.drop (q + 1) := by rw [← List.drop_drop, hd, List.drop_drop]
        have ew1 : IntKind.i64.wrap ((q : Int) + 1) = (q : Int) + 1 := wrapS (by omega) (by omega)
        have ew2 : IntKind.i64.wrap ((i : Int) + 1) = (i : Int) + 1 := wrapS (by omega) (by omega)
        rw [ew1, ew2]
        refine ⟨hrd2.ob (by omega) (by omega), y, hyr, hf H2 y _ hs2 fun H3 hs3 => ⟨_, rfl, fun he => ?_, fun he => ?_⟩⟩
        · have how3 : OwnL H3 9 sE 1 oa n c l' := Owns.mono how2 fun a o _ hb => hs3.le _ _ hb
          obtain ⟨H4, hw, how4, hf4⟩ := Owns.set sLen how3 (by omega) (i := (i : Int)) (by omega) (by omega) y
          rw [Int.toNat_natCast] at how4
          refine ⟨hrd2.ob (by omega) (by omega), H4, hw, ⟨by omega, by omega, by omega, hf4.sub (hs2.trans hs3) ho, _, how4, ?_, ?_⟩, ⟨by simp only; omega⟩⟩
          · rw [show ((i : Int) + 1).toNat = i + 1 by omega, show ((q : Int) + 1).toNat = q + 1 by omega, htk, List.filter_append, ← ht, List.take_add_one, List.getElem?_set_self (by omega), List.take_set_of_le (Nat.le_refl _)]
            have : p y = false := by simpa using he
            simp [this]
          · rw [show ((q : Int) + 1).toNat = q + 1 by omega, ← hdr, List.drop_set_of_lt (by omega)]
        · refine ⟨⟨by omega, by omega, by omega, hs2.trans hs3, l', Owns.mono how2 fun a o _ hb => hs3.le _ _ hb, ?_, ?_⟩, ⟨by simp only; omega⟩⟩
          · rw [Int.toNat_natCast, show ((q : Int) + 1).toNat = q + 1 by omega, htk, List.filter_append, ← ht]
            have : p y = true := by simpa using he
            simp [this]
          · rw [show ((q : Int) + 1).toNat = q + 1 by omega]; exact hdr
      · have hqn : q = n := by
          have : ¬ q < n := by simpa using hi
          omega
        subst hqn
        have hone : oa ≠ none := hrd2.ne (i := 0) (by omega) (by omega)
        obtain ⟨H3, hw, how3, hf3⟩ := how2.put (p := i) (ys := (List.replicate (q - i) noS).flatMap sE) (by rw [length_flatMap sLen, List.length_replicate]; omega) hone
        refine ⟨⟨by omega, by omega, by omega⟩, ?_⟩
        simp only [Int.toNat_natCast, Int.toNat_zero, Nat.sub_zero, slA_zero]
        rw [slA_pos (show (i : Int) ≠ c by omega)]
        refine clear_rw tStr (E := sE) (Z := noS) zS (sOne noS) (fun e => absurd e (hrd2.elem_ne (by omega) (by omega))) (.inr hw) ?_
        refine ⟨⟨by omega, by omega, by omega⟩, i, c, rfl, ?_, hf3.sub hs2 ho⟩
        have h5 := how3.cut (m := i) (by omega)
        rw [List.append_assoc, List.take_append_of_le_length (by rw [List.length_take, length_flatMap sLen, hll2]; omega), List.take_take, Nat.min_self] at h5
        have e1 : (l'.flatMap sE).take (i * 1) = (l'.take i).flatMap sE := by
          conv => lhs; rw [← List.take_append_drop i l', List.flatMap_append]
          rw [List.take_left' (by rw [length_flatMap sLen, List.length_take]; omega)]
        rw [e1, ht, List.take_of_length_le (by omega)] at h5
        exact Owns.rd (E := sE) (sz := 1) (by omega) sLen h5
def maxL : List ByteArray → ByteArray
  | [] => noS
  | x :: xs => xs.foldl maxT x
theorem maxL_snoc {l : List ByteArray} {x : ByteArray} (h : l ≠ []) : maxL (l ++ [x]) = maxT (maxL l) x := by
  cases l with
  | nil => exact absurd rfl h
  | cons y ys => simp [maxL]
theorem maxL_mem : ∀ {l : List ByteArray}, l ≠ [] → maxL l ∈ l
  | [], h => absurd rfl h
  | x :: xs, _ => by
    have : ∀ (xs : List ByteArray) (x : ByteArray), xs.foldl maxT x ∈ x :: xs := by
      intro xs
      induction xs with
      | nil => intro x; simp
      | cons y ys ih =>
        intro x
        rw [List.foldl_cons]
        have := ih (maxT x y)
        rcases List.mem_cons.1 this with h | h
        · rw [h]
          unfold maxT
          split <;> simp
        · exact List.mem_cons_of_mem _ (List.mem_cons_of_mem _ h)
    exact this xs x
theorem maxS_ok {H : PHeap} {oa : Option Addr} {n c : Nat} {l : List ByteArray} (hl : RdL H sE 1 oa n l) (h0 : 0 < n) (hn : n ≤ 100000) :
    Triple Tryz.prog 128 #[.slice oa n c] H fun v H' => v = .string (maxL l) ∧ H' = H := by
  have hll := hl.len
  refine maxS.vc oa n c H _ ⟨fun e => by simp at e; omega, fun _ => ⟨hl.ob (by omega) (by omega), ?_⟩⟩
  obtain ⟨x, hx, hxr⟩ := hl.ex (i := (0 : Int)) (by omega) (by omega)
  refine ⟨x, hxr, fun t H' => match t with | [.string s, .int _ i] => 1 ≤ i ∧ i ≤ n ∧ H' = H ∧ s = maxL (l.take i.toNat) | _ => False, fun t _ => match t with | [_, .int _ i] => (n - i).toNat | _ => 0, ⟨by omega, by omega, rfl, ?_⟩, ?_⟩
  · cases l with
    | nil => simp at hx
    | cons y ys => simp at hx; subst hx; simp [maxL]
  rintro s i H1 ⟨i0, i1, rfl, rfl⟩
  obtain ⟨i, rfl⟩ : ∃ j : Nat, i = j := ⟨i.toNat, by omega⟩
  refine ⟨fun hi => ?_, fun hi => ?_⟩
  · have hi' : i < n := by simpa using hi
    obtain ⟨y, hy, hyr⟩ := hl.ex (i := (i : Int)) (by omega) (by omega)
    rw [Int.toNat_natCast] at hy
    rw [wrapS (by omega) (by omega)]
    refine ⟨hl.ob (by omega) (by omega), y, hyr, ⟨by omega, by omega, rfl, ?_⟩, ⟨by simp only; omega⟩⟩
    rw [show ((i : Int) + 1).toNat = i + 1 by omega, List.take_add_one, hy, Int.toNat_natCast]
    refine (maxL_snoc fun e => ?_).symm
    have := congrArg List.length e
    simp only [List.length_take, List.length_nil] at this
    omega
  · have hi' : ¬ i < n := by simpa using hi
    rw [Int.toNat_natCast, List.take_of_length_le (by omega)]
    exact ⟨rfl, rfl⟩
abbrev kind_ (m : Msg) : Int := m.1
abbrev what_ (m : Msg) : Int := m.2.2.2.2.2.2.2.2.2.1
abbrev who_ (m : Msg) : Sl Int := m.2.2.2.2.2.2.2.2.2.2.1
abbrev names_ (m : Msg) : Sl ByteArray := m.2.2.2.2.2.2.2.2.2.2.2.1
abbrev iE : Int → List Value := intE .i64
/-- What a message's slices hold is read. -/
structure OkP (H : PHeap) (m : Msg) : Prop where
  who : RdL H iE 1 (who_ m).oa (who_ m).n (who_ m).l
  names : RdL H sE 1 (names_ m).oa (names_ m).n (names_ m).l
  small : (names_ m).n ≤ 300
theorem OkP.mono {H H' : PHeap} {m : Msg} (h : OkP H m) (hs : Sub H H') : OkP H' m := ⟨h.who.mono hs, h.names.mono hs, h.small⟩
abbrev vM (m : Msg) : Value := .agg (mE m).toArray
theorem listed_ok {H : PHeap} {oa : Option Addr} {n c : Nat} {l : List Msg} (hl : RdL H mE 13 oa n l) (hn : n ≤ 100000) :
    Triple Tryz.prog 122 #[.slice oa n c] H fun v H' => ∃ b m k, v = .slice b m k ∧ RdL H' mE 13 b m (l.filter fun m => kind_ m == 20) ∧ Sub H H' ∧ Off H b := by
  refine listed.vc oa n c H _ ((Rnd.cloneM_ok hl hn).mono ?_)
  rintro _ H1 ⟨b, k, rfl, g1, g2, g3⟩
  refine ⟨b, n, k, rfl, (Rnd.delFunc_own (p := fun m => kind_ m != 20) g2 g3 g1 hn fun H2 x Q _ hQ => ?_).mono ?_⟩
  · refine CallY.fn (by kernel_rfl) ?_
    obtain ⟨y1, y2, y3, y4, y5, y6, y7, y8, y9, y10, ⟨ya, yb, yc, yl⟩, ⟨za, zb, zc, zl⟩, ⟨wa, wb, wc, wl⟩⟩ := x
    exact listed1.vc y1 y2 y3 y4 y5 y6 y7 y8 y9 y10 ya yb yc za zb zc wa wb wc H2 Q (hQ H2 (Sub.refl _))
  · rintro _ H2 ⟨m, k2, rfl, h1, h2⟩
    refine ⟨b, m, k2, rfl, b, m, k2, rfl, ?_, h2, g3⟩
    have e : (fun m : Msg => !(kind_ m != 20)) = fun m => kind_ m == 20 := funext fun m => by simp [bne]
    rwa [e] at h1
/-- What a page says of its node. -/
def stateL (m : Msg) : Int := ((who_ m).l.head?).getD 0
theorem state_ok {H : PHeap} {m : Msg} (h : OkP H m) : Triple Tryz.prog 123 #[vM m] H fun v H' => v = .int .i64 (stateL m) ∧ H' = H := by
  obtain ⟨y1, y2, y3, y4, y5, y6, y7, y8, y9, y10, ⟨ya, yb, yc, yl⟩, ⟨za, zb, zc, zl⟩, ⟨wa, wb, wc, wl⟩⟩ := m
  have hw : RdL H iE 1 ya yb yl := h.who
  have hwl := hw.len
  refine state.vc y1 y2 y3 y4 y5 y6 y7 y8 y9 y10 ya yb yc za zb zc wa wb wc H _ ⟨fun e => ?_, fun e => ?_⟩
  · have e' : yb = 0 := by simp at e; omega
    have : yl = [] := List.eq_nil_of_length_eq_zero (by omega)
    subst this
    exact ⟨rfl, rfl⟩
  · have e' : 0 < yb := by simp at e; omega
    obtain ⟨x, hx, hxr⟩ := hw.ex (i := (0 : Int)) (by omega) (by omega)
    refine ⟨hw.ob (by omega) (by omega), x, hxr, ?_, rfl⟩
    have : yl.head? = some x := by rw [List.head?_eq_getElem?]; simpa using hx
    simp [stateL, who_, this]
/-- A page is whole. -/
def wholeB (m : Msg) : Bool := what_ m == 1 || (names_ m).l.isEmpty
theorem whole_ok {H : PHeap} {m : Msg} (h : OkP H m) : Triple Tryz.prog 127 #[vM m] H fun v H' => v = .bool (wholeB m) ∧ H' = H := by
  obtain ⟨y1, y2, y3, y4, y5, y6, y7, y8, y9, y10, ⟨ya, yb, yc, yl⟩, ⟨za, zb, zc, zl⟩, ⟨wa, wb, wc, wl⟩⟩ := m
  have hw : RdL H sE 1 za zb zl := h.names
  have hwl := hw.len
  refine whole.vc y1 y2 y3 y4 y5 y6 y7 y8 y9 y10 ya yb yc za zb zc wa wb wc H _ ⟨?_, rfl⟩
  congr 1
  have e : ((zb : Int) == 0) = zl.isEmpty := by
    cases zl with
    | nil => have : zb = 0 := hwl.symm; subst this; rfl
    | cons a l => have : zb = l.length + 1 := hwl.symm; subst this; simp; omega
  simp only [wholeB, what_, names_, e]
  cases (y10 == 1) <;> rfl
end Go.Page
namespace Go.Page
open Go.Vx Go.Vc Go.Proofs Go.Txt Go.Lab
/-- The least limit: at its end, or a text. -/
def limStep (st : Bool × ByteArray) (s : ByteArray) : Bool × ByteArray := if st.1 || lessS s st.2 then (false, s) else st
def limL (L : List Msg) : Bool × ByteArray := L.foldl (fun st m => if wholeB m then st else limStep st (maxL (names_ m).l)) (true, noS)
def farB (lim : Bool × ByteArray) (s : ByteArray) : Bool := !lim.1 && lessS lim.2 s
/-- The names behind pages. -/
def namesL (lim : Bool × ByteArray) (names : List ByteArray) (L : List Msg) : List ByteArray := L.foldl (fun o m => mergeL (o ++ (names_ m).l.filter fun s => !farB lim s)) names
theorem limL_snoc (L : List Msg) (m : Msg) : limL (L ++ [m]) = if wholeB m then limL L else limStep (limL L) (maxL (names_ m).l) := by simp [limL]
theorem namesL_snoc (lim : Bool × ByteArray) (names : List ByteArray) (L : List Msg) (m : Msg) : namesL lim names (L ++ [m]) = mergeL (namesL lim names L ++ (names_ m).l.filter fun s => !farB lim s) := by simp [namesL]
theorem mergeL_len (l : List ByteArray) : (mergeL l).length ≤ l.length := by
  have := foldl_len l []
  simpa [mergeL] using this
def sumN (L : List Msg) : Nat := (L.map fun m => (names_ m).l.length).sum
theorem namesL_len (lim : Bool × ByteArray) (names : List ByteArray) (L : List Msg) : (namesL lim names L).length ≤ names.length + sumN L := by
  have key : ∀ (L : List Msg) (o : List ByteArray), (L.foldl (fun o m => mergeL (o ++ (names_ m).l.filter fun s => !farB lim s)) o).length ≤ o.length + sumN L := by
    intro L
    induction L with
    | nil => intro o; simp [sumN]
    | cons m ms ih =>
      intro o
      rw [List.foldl_cons]
      have h1 := ih (mergeL (o ++ (names_ m).l.filter fun s => !farB lim s))
      have h2 := mergeL_len (o ++ (names_ m).l.filter fun s => !farB lim s)
      have h3 := List.length_filter_le (fun s => !farB lim s) (names_ m).l
      rw [List.length_append] at h2
      have e : sumN (m :: ms) = (names_ m).l.length + sumN ms := by simp [sumN]
      rw [e]
      omega
  exact key L names
theorem sumN_take (L : List Msg) (i : Nat) : sumN (L.take i) ≤ sumN L := by
  have : sumN L = sumN (L.take i) + sumN (L.drop i) := by
    have e : ∀ (A B : List Msg), sumN (A ++ B) = sumN A + sumN B := fun A B => by unfold sumN; rw [List.map_append, List.sum_append]
    rw [← e, List.take_append_drop]
  omega
theorem limit_ok {H : PHeap} {k5 k6 : Nat} {e : Bool} {least s : ByteArray} (h6 : Bx H k6 4 [.bool e]) (h5 : Bx H k5 9 [.string least]) (hne : k5 ≠ k6) :
    Triple Tryz.prog 125 #[.string s, .pointer (at0 k6), .pointer (at0 k5)] H fun v H' => v = .tuple #[] ∧ Bx H' k6 4 [.bool (limStep (e, least) s).1] ∧ Bx H' k5 9 [.string (limStep (e, least) s).2] ∧ ∀ q o, q ≠ k5 → q ≠ k6 → H q = some o → H' q = some o := by
  have wr : ∀ {P : PHeap → Prop}, (∀ H', Bx H' k6 4 [.bool false] → Bx H' k5 9 [.string s] → (∀ q o, q ≠ k5 → q ≠ k6 → H q = some o → H' q = some o) → P H') → ∃ H9, Writes H H9 (at0 k5) [.string s] ∧ ∃ H10, Writes H9 H10 (at0 k6) [.bool false] ∧ P H10 := by
    intro P hP
    have h6' := h6.upd_ne (.cells [Value.string s].toArray 9 (0, 0)) hne.symm
    refine ⟨_, h5.writes [.string s] rfl, _, h6'.writes [.bool false] rfl, hP _ (Bx.new _ _ _ _) ((Bx.new H k5 9 [.string s]).upd_ne _ hne) fun q o h1 h2 hq => ?_⟩
    rw [Vx.upd_ne _ _ h2, Vx.upd_ne _ _ h1]; exact hq
  refine pTurn1.vc s (at0 k6) (at0 k5) H _ ⟨e, h6.reads, fun he => ⟨least, h5.reads, (less_ok s least).use ⟨_, rfl, fun hl => wr fun H' g1 g2 g3 => ?_, fun hl => ?_⟩⟩, fun he => wr fun H' g1 g2 g3 => ?_⟩
  · have e1 : limStep (e, least) s = (false, s) := by simp [limStep, hl]
    rw [e1]; exact ⟨rfl, g1, g2, g3⟩
  · have e1 : limStep (e, least) s = (e, least) := by simp [limStep, he, hl]
    rw [e1]; exact ⟨rfl, h6, h5, fun _ _ _ _ h => h⟩
  · have e' : e = true := by simpa using he
    have e1 : limStep (e, least) s = (false, s) := by simp [limStep, e']
    rw [e1]; exact ⟨rfl, g1, g2, g3⟩
theorem far_ok' {H : PHeap} {k5 k6 : Nat} {lim : Bool × ByteArray} {s : ByteArray} (h6 : Bx H k6 4 [.bool lim.1]) (h5 : Bx H k5 9 [.string lim.2]) {Q : Value → PHeap → Prop} (hQ : Q (.bool (farB lim s)) H) :
    Triple Tryz.prog 131 #[.string s, .pointer (at0 k6), .pointer (at0 k5)] H Q := by
  refine pTurn2.vc s (at0 k6) (at0 k5) H Q ⟨lim.1, h6.reads, fun e => ⟨lim.2, h5.reads, (less_ok lim.2 s).use ⟨_, rfl, ?_⟩⟩, fun e => ?_⟩
  · have e' : lim.1 = false := by simpa using e
    have : farB lim s = lessS lim.2 s := by simp [farB, e']
    rwa [this] at hQ
  · have e' : lim.1 = true := by simpa using e
    have : farB lim s = false := by simp [farB, e']
    rwa [this] at hQ
/-- The block k holds pages, apart from F, which holds what it reads. -/
structure PgS (F H : PHeap) (k : Nat) (names : List ByteArray) (after : ByteArray) : Prop where
  sub : Sub F H
  off : F k = none
  row : ∃ oa n c, Bx H k 73 [.slice oa n c, .string after, .slice none 0 0] ∧ RdL F sE 1 oa n names
end Go.Page
namespace Go.Page
open Go.Vx Go.Txt Go.Lab
theorem less_le {a b c : ByteArray} (h1 : lessS a b = true) (h2 : lessS c b = false) : lessS a c = true := by
  by_cases e : b = c
  · rw [← e]; exact h1
  · rcases lessS_total e with h | h
    · exact lessS_trans h1 h
    · rw [h2] at h; cases h
theorem le_trans' {a b c : ByteArray} (h1 : lessS b a = false) (h2 : lessS c b = false) : lessS c a = false := by
  cases h : lessS c a with
  | false => rfl
  | true => have := less_le h h1; rw [h2] at this; cases this
theorem lim_fold : ∀ (L : List Msg) (st : Bool × ByteArray), let r := L.foldl (fun st m => if wholeB m then st else limStep st (maxL (names_ m).l)) st
    (r.1 = true → st.1 = true ∧ ∀ m ∈ L, wholeB m = true) ∧
    (r.1 = false → ((st.1 = false ∧ r.2 = st.2) ∨ ∃ m ∈ L, wholeB m = false ∧ r.2 = maxL (names_ m).l) ∧ (st.1 = false → lessS st.2 r.2 = false) ∧ ∀ m ∈ L, wholeB m = false → lessS (maxL (names_ m).l) r.2 = false)
  | [], st => ⟨fun h => ⟨h, by simp⟩, fun h => ⟨.inl ⟨h, rfl⟩, fun _ => lessS_irrefl _, by simp⟩⟩
  | m :: ms, st => by
    intro r
    have ih := lim_fold ms (if wholeB m then st else limStep st (maxL (names_ m).l))
    have er : r = ms.foldl (fun st m => if wholeB m then st else limStep st (maxL (names_ m).l)) (if wholeB m then st else limStep st (maxL (names_ m).l)) := rfl
    simp only at ih
    rw [← er] at ih
    clear er
    obtain ⟨i1, i2⟩ := ih
    cases hw : wholeB m with
    | true =>
      rw [hw, if_pos rfl] at i1 i2
      refine ⟨fun h => ⟨(i1 h).1, fun x hx => ?_⟩, fun h => ?_⟩
      · rcases List.mem_cons.1 hx with rfl | hx
        · exact hw
        · exact (i1 h).2 x hx
      · obtain ⟨j1, j2, j3⟩ := i2 h
        refine ⟨?_, j2, fun x hx hxw => ?_⟩
        · rcases j1 with j | ⟨x, hx, j⟩
          · exact .inl j
          · exact .inr ⟨x, List.mem_cons_of_mem _ hx, j⟩
        · rcases List.mem_cons.1 hx with rfl | hx
          · rw [hw] at hxw; cases hxw
          · exact j3 x hx hxw
    | false =>
      rw [hw, if_neg (by simp)] at i1 i2
      have hst : (limStep st (maxL (names_ m).l)).1 = false := by
        unfold limStep
        split
        · rfl
        · rename_i h; simp at h; exact h.1
      refine ⟨fun h => (by have := (i1 h).1; rw [hst] at this; cases this), fun h => ?_⟩
      obtain ⟨j1, j2, j3⟩ := i2 h
      have j2' := j2 hst
      have hm : lessS (maxL (names_ m).l) (limStep st (maxL (names_ m).l)).2 = false := by
        unfold limStep
        split
        · exact lessS_irrefl _
        · rename_i h; simp at h; exact h.2
      refine ⟨?_, fun h0 => ?_, fun x hx hxw => ?_⟩
      · rcases j1 with ⟨_, j⟩ | ⟨x, hx, j⟩
        · rw [j]
          unfold limStep
          split
          · exact .inr ⟨m, by simp, hw, rfl⟩
          · rename_i h; simp at h; exact .inl ⟨h.1, rfl⟩
        · exact .inr ⟨x, List.mem_cons_of_mem _ hx, j⟩
      · refine le_trans' j2' ?_
        unfold limStep
        split
        · rename_i hc
          simp [h0] at hc
          exact lessS_asymm hc
        · exact lessS_irrefl _
      · rcases List.mem_cons.1 hx with rfl | hx
        · exact le_trans' j2' hm
        · exact j3 x hx hxw
theorem mem_namesL (lim : Bool × ByteArray) : ∀ (L : List Msg) (names : List ByteArray) (x : ByteArray), x ∈ namesL lim names L ↔ x ∈ names ∨ ∃ m ∈ L, x ∈ (names_ m).l ∧ farB lim x = false
  | [], names, x => by simp [namesL]
  | m :: ms, names, x => by
    have ih := mem_namesL lim ms (mergeL (names ++ (names_ m).l.filter fun s => !farB lim s)) x
    have e : namesL lim names (m :: ms) = namesL lim (mergeL (names ++ (names_ m).l.filter fun s => !farB lim s)) ms := rfl
    rw [e, ih, (mergeL_rising _).2, List.mem_append, List.mem_filter]
    constructor
    · rintro ((h | ⟨h1, h2⟩) | ⟨y, hy, h⟩)
      · exact .inl h
      · exact .inr ⟨m, by simp, h1, by simpa using h2⟩
      · exact .inr ⟨y, List.mem_cons_of_mem _ hy, h⟩
    · rintro (h | ⟨y, hy, h1, h2⟩)
      · exact .inl (.inl h)
      · rcases List.mem_cons.1 hy with rfl | hy
        · exact .inl (.inr ⟨h1, by simpa using h2⟩)
        · exact .inr ⟨y, hy, h1, h2⟩
theorem rising_namesL (lim : Bool × ByteArray) : ∀ (L : List Msg) {names : List ByteArray}, Rising names → Rising (namesL lim names L)
  | [], names, h => h
  | m :: ms, names, _ => rising_namesL lim ms (mergeL_rising _).1
end Go.Page
