/- The executor's use: texts and bytes. -/
import Derived.Test.YtllbdocjgdnofaaVxO
import Derived.Laws.IdiomStrings
import Derived.Laws.BytesArg
namespace Go.Vx

abbrev bE : Int → List Value := intE .u8
theorem bLen (n : Int) : (bE n).length = 1 := rfl
theorem bOne (n : Int) : ∀ u ∈ bE n, u.oneCell' = true := fun u hu => by simp [intE] at hu; subst hu; rfl
/-- A text's bytes. -/
def bytesL (s : ByteArray) : List Int := s.data.toList.map fun c => (c.toNat : Int)
theorem bytesL_len (s : ByteArray) : (bytesL s).length = s.size := by unfold bytesL; rw [List.length_map, Array.length_toList]; rfl
theorem bytesL_at {s : ByteArray} {i : Nat} (h : i < s.size) : (bytesL s)[i]? = some (byteAt s i) := by
  have h2 : i < s.data.size := h
  unfold bytesL byteAt
  rw [List.getElem?_map, Int.toNat_natCast, Array.getElem?_toList, Array.getElem?_eq_getElem h2]
  rfl
theorem bytesL_range {s : ByteArray} {n : Int} (h : n ∈ bytesL s) : 0 ≤ n ∧ n ≤ 255 := by
  unfold bytesL at h
  obtain ⟨c, _, rfl⟩ := List.mem_map.1 h
  have := UInt8.toNat_lt c
  omega
theorem strOf_bytes (s : ByteArray) : strOfNums (bytesL s) = s := by
  unfold strOfNums bytesL
  rw [List.map_map]
  have : s.data.toList.map ((fun n : Int => UInt8.ofNat n.toNat) ∘ fun c : UInt8 => (c.toNat : Int)) = s.data.toList := by
    conv => rhs; rw [← List.map_id s.data.toList]
    refine List.map_congr_left fun c _ => ?_
    simp
  rw [this]
theorem bytes_strOf {l : List Int} (h : ∀ n ∈ l, 0 ≤ n ∧ n ≤ 255) : bytesL (strOfNums l) = l := by
  unfold strOfNums bytesL
  rw [List.map_map]
  conv => rhs; rw [← List.map_id l]
  refine List.map_congr_left fun n hn => ?_
  have := h n hn
  simp only [Function.comp_apply, id_eq]
  rw [UInt8.toNat_ofNat_of_lt' (by show n.toNat < 256; omega)]
  omega
/-- A text as bytes: to be read. -/
theorem str_bytes {P : Program} {src dst e : TypeId} (hs : P.underlying src = some .string) (hd : P.underlying dst = some (.slice e)) (he : P.underlying e = some (.int .u8)) {H : PHeap} {s : ByteArray} {K : Value → PHeap → Prop}
    (hK : ∀ b c H', H b = none → RdL H' bE 1 (at0 b) s.size (bytesL s) → Sub H H' → K (.slice (at0 b) s.size c) H') : EvV P (convert src dst (.string s)) H K := by
  refine ⟨fun w hs' => ⟨_, _, _, run_bytes_of_string w src dst e s hs hd he, (Nx.drew hs').trans (Nx.alloc (w := w.drew) hs' _), hK _ _ _ (sees_none hs' (Nat.le_refl _)) ⟨bytesL_len s, (fun e => by cases e), fun i x hx => ?_⟩ (Sub.upd _ (sees_none hs' (Nat.le_refl _)))⟩⟩
  have hi : i < s.data.size := by have := (List.getElem?_eq_some_iff.1 hx).1; rw [bytesL_len] at this; exact this
  refine ⟨⟨_, rfl, fun j v hj => ?_⟩⟩
  have hj0 : j = 0 := by have := (List.getElem?_eq_some_iff.1 hj).1; rw [bLen] at this; omega
  subst hj0
  rw [hcell_add]
  simp only [Addr.add_lit, hcell]
  rw [show w.drew.heap.size = w.heap.size from rfl, upd_eq]
  have hv : v = .int .u8 x := by simpa [intE] using hj.symm
  subst hv
  unfold bytesL at hx
  rw [List.getElem?_map, Array.getElem?_toList, Array.getElem?_eq_getElem hi] at hx
  have hx' : (s.data[i].toNat : Int) = x := by simpa using hx
  unfold bytesRow
  simp only [Int.toNat_natCast, Nat.mul_one, Nat.add_zero, Nat.zero_add, Option.isSome_none, Bool.false_eq_true, if_false]
  rw [← hx', Array.getElem?_append_left (by rw [Array.size_map]; exact hi), Array.getElem?_map, Array.getElem?_eq_getElem hi]
  rfl
/-- Bytes as a text. -/
theorem bytes_str {P : Program} {src dst e : TypeId} (hs : P.underlying src = some (.slice e)) (he : P.underlying e = some (.int .u8)) (hd : P.underlying dst = some .string) {H : PHeap} {oa : Option Addr} {n c : Nat} {l : List Int} (h : RdL H bE 1 oa n l) {K : Value → PHeap → Prop}
    (hK : K (.string (strOfNums l)) H) : EvV P (convert src dst (.slice oa n c)) H K := by
  refine ⟨fun w hw => ⟨_, w, H, ?_, Nx.refl hw, hK⟩⟩
  have hl := h.len
  cases oa with
  | none =>
    have h0 := h.pos rfl
    have hl0 : l = [] := List.eq_nil_of_length_eq_zero (by omega)
    subst hl0
    exact run_convert_bytes_nil w src e hs he n c dst hd
  | some a =>
    obtain ⟨b, off, sp⟩ := a
    cases hsp : sp with
    | none =>
      subst hsp
      refine run_convert_bytes_arg w src e hs he b off n c l hl (fun i hi => ?_) dst hd
      have hx := List.getElem?_eq_getElem (show i < l.length by omega)
      obtain ⟨a, ha, hg⟩ := (h.get i _ hx).out
      simp [elemA, Addr.add_lit] at ha
      subst ha
      have := hcell_world hw (hg 0 _ rfl)
      rw [Addr.add_lit, Nat.add_zero] at this
      rw [this, List.getD_eq_getElem?_getD, hx]
      rfl
    | some q =>
      subst hsp
      cases l with
      | nil =>
        simp only [List.length_nil] at hl
        subst hl
        rw [run_convert_bytes_string w src dst e _ 0 c hs he hd, run_bytesToString w _ 0 c [] (by simp [loadCells, loadCellsFrom])]
        rfl
      | cons x xs =>
        obtain ⟨a, ha, hg⟩ := (h.get 0 x rfl).out
        have := hg 0 _ rfl
        simp [elemA, Addr.add] at ha
        subst ha
        simp [Addr.add, hcell] at this
        split at this <;> cases this
end Go.Vx
