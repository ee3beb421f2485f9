/- The document's model: all names, and whether events may come: the contracts. -/
import Derived.Test.YtlhnepjidbofnaaDoorMdlR4
namespace Go.Mdl
open Go.Vx Go.Vc Go.Proofs Go.Txt Go.Lab

theorem EvL.take {H : PHeap} {a : Option Addr} {n : Nat} {l : List EvX} (h : EvL H a n l) {i : Nat} (hi : i ≤ n) : EvL H a i (l.take i) := by
  obtain ⟨vs, h1, h2, h3⟩ := h.out
  refine ⟨⟨vs.take i, h1.take hi, by simp [h2], fun j v x hv hx => ?_⟩, fun e he => h.dat e (List.mem_of_mem_take he)⟩
  rw [List.getElem?_take] at hv hx
  split at hv
  · rename_i h; rw [if_pos h] at hx; exact h3 j v x hv hx
  · cases hv
/-- The names that were called. -/
def namesOf (l : List EvX) : List ByteArray := l.filterMap fun e => if e.kind = 1 ∧ e.op.k ≠ 4 then some e.op.s else none
theorem namesOf_succ {l : List EvX} {i : Nat} {e : EvX} (he : l[i]? = some e) : namesOf (l.take (i + 1)) = namesOf (l.take i) ++ (if e.kind = 1 ∧ e.op.k ≠ 4 then [e.op.s] else []) := by
  unfold namesOf
  rw [List.take_add_one, he, List.filterMap_append]
  congr 1
  simp only [Option.toList, List.filterMap_cons, List.filterMap_nil]
  split <;> simp_all
theorem mem_namesOf {l : List EvX} {s : ByteArray} (h : s ∈ namesOf l) : ∃ e ∈ l, e.kind = 1 ∧ e.op.k ≠ 4 ∧ e.op.s = s := by
  obtain ⟨e, he, h⟩ := List.mem_filterMap.1 h
  split at h
  · rename_i hk; exact ⟨e, he, hk.1, hk.2, by simpa using h⟩
  · cases h
theorem namesOf_len (l : List EvX) : (namesOf l).length ≤ l.length := List.length_filterMap_le ..
theorem mergeL_len (l : List ByteArray) : (mergeL l).length ≤ l.length := by
  have := foldl_len l []; simpa [mergeL] using this
theorem ev_rd {H : PHeap} {a : Option Addr} {v : EvW} (h : Reads H a (evE v)) : Reads H (fldA a 0) [.int .i64 v.kind] ∧ Reads H (fldA (fldA a 3) 0) [.int .i64 v.op.k] ∧ Reads H (fldA (fldA a 3) 1) [.string v.op.s] := by
  rw [fld_fld, fld_fld]
  refine ⟨h.fld 0 fun j u hu => ?_, h.fld 3 fun j u hu => ?_, h.fld 4 fun j u hu => ?_⟩
  all_goals match j, hu with
    | 0, hu => exact hu
    | j + 1, hu => simp at hu
theorem names_ok {H : PHeap} {a : Option Addr} {n c : Nat} {l : List EvX} (h : EvL H a n l) (hn : n ≤ 500) :
    Triple Tryd.prog 7 #[.slice a n c] H fun v H' => ∃ b m k, v = .slice b m k ∧ OwnL H' 9 strE 1 b m k (mergeL (namesOf l)) ∧ Off H b ∧ Sub H H' := by
  have hln := h.len
  refine rNames.vc a n c H _ ⟨fun t H' => match t with | [.slice b m k, .int _ i] => 0 ≤ i ∧ i ≤ n ∧ Sub H H' ∧ OwnL H' 9 strE 1 b m k (mergeL (namesOf (l.take i.toNat))) ∧ Off H b | _ => False,
    fun t _ => match t with | [_, .int _ i] => (n - i).toNat | _ => 0, ⟨by omega, by omega, Sub.refl _, Owns.nil _ _ _, .none _⟩, ?_⟩
  rintro b m k i H1 ⟨i0, i1, hs1, how, hof⟩
  obtain ⟨i, rfl⟩ : ∃ j : Nat, i = j := ⟨i.toNat, by omega⟩
  rw [Int.toNat_natCast] at how
  have hr := how.rd (E := strE) (sz := 1) (by omega) stLen
  have hmk := how.le
  refine ⟨fun hi => ?_, fun hi => ?_⟩
  · have hi' : i < n := by simpa using hi
    have ew : IntKind.i64.wrap ((i : Int) + 1) = (i : Int) + 1 := wrap64 (by omega) (by omega)
    have ei : ((i : Int) + 1).toNat = i + 1 := by omega
    have he : l[i]? = some l[i] := List.getElem?_eq_getElem (by omega)
    generalize l[i] = e at he
    obtain ⟨w, hw, hrw, hob, hen⟩ := (h.mono hs1).at he
    have hf := ev_rd hrw
    have hen3 : Ob (fldA (elemA a (i : Int) 10) 3 ≠ none) := ⟨by have := hen.out; cases h : elemA a (i : Int) 10 with | none => exact absurd h this | some x => simp [fldA]⟩
    have hml : m ≤ i := by
      have h1 := hr.len; have h2 := mergeL_len (namesOf (l.take i)); have h3 := namesOf_len (l.take i)
      rw [List.length_take] at h3; omega
    have hkk := hw.kind
    have hko := hw.op.k
    have hso := hw.op.s
    have same : ¬ (e.kind = 1 ∧ e.op.k ≠ 4) → (0 ≤ (i : Int) + 1 ∧ (i : Int) + 1 ≤ n ∧ Sub H H1 ∧ OwnL H1 9 strE 1 b m k (mergeL (namesOf (l.take ((i : Int) + 1).toNat))) ∧ Off H b) ∧ Less ((n - ((i : Int) + 1)).toNat) ((n - (i : Int)).toNat) := fun hno => by
      rw [ei, namesOf_succ he, if_neg hno, List.append_nil]
      exact ⟨⟨by omega, by omega, hs1, how, hof⟩, ⟨by omega⟩⟩
    rw [ew]
    refine ⟨hob, hen, w.kind, hf.1, fun e1 => ⟨hob, hen, hen3, w.op.k, hf.2.1, fun e2 => ⟨hob, hen, hen3, w.op.s, hf.2.2, (add_ok hr hmk (by omega) fun x hx => ?_).mono ?_⟩, fun e2 => same ?_⟩, fun e1 => same ?_⟩
    · obtain ⟨e', he', _, _, rfl⟩ := mem_namesOf (((mergeL_rising _).2 x).1 hx)
      exact (h.dat e' (List.mem_of_mem_take he')).2.2
    · rintro _ H2 ⟨b2, m2, k2, rfl, hr2, hmk2, hs2, hw2⟩
      have e1' : e.kind = 1 ∧ e.op.k ≠ 4 := ⟨by rw [← hkk]; simpa using e1, by rw [← hko]; simpa using e2⟩
      rw [hso] at hw2
      have en : mergeL (namesOf (l.take ((i : Int) + 1).toNat)) = addL (mergeL (namesOf (l.take i))) e.op.s := by rw [ei, namesOf_succ he, if_pos e1', mergeL, List.foldl_append]; rfl
      refine ⟨b2, m2, k2, rfl, ⟨by omega, by omega, hs1.trans hs2, ?_, ?_⟩, ⟨by simp only; omega⟩⟩
      · rw [en]
        rcases hw2 with ⟨h1, _⟩ | ⟨rfl, rfl, rfl, h4⟩
        · exact h1
        · rw [h4]; exact how.mono fun a o _ ho => hs2.le _ _ ho
      · rcases hw2 with ⟨_, h2⟩ | ⟨rfl, _⟩
        · exact fun a ha => hs1.none (h2 a ha)
        · exact hof
    · rintro ⟨_, h4⟩
      rw [← hko] at h4
      have : w.op.k = 4 := by simpa using e2
      exact h4 this
    · rintro ⟨h1, _⟩
      rw [← hkk] at h1
      rw [h1] at e1; simp at e1
  · have : ¬ i < n := by simpa using hi
    rw [List.take_of_length_le (by omega)] at how
    exact ⟨b, m, k, rfl, how, hof, hs1⟩
/-- May events come? -/
def rightP (l : List EvX) (n : Nat) : Prop := okAt l n ∧ ∀ s ∈ namesOf l, ∃ z, W (stsN l s n) c0 z
end Go.Mdl
