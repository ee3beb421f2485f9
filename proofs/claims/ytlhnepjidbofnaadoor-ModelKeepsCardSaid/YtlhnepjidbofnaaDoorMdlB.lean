/- A strings.Builder of one's own, and a quoted text: the contracts. -/
import Derived.Test.YtlhnepjidbofnaaDoorE3
import Derived.Test.YtlhnepjidbofnaaDoorVcMdlB
import Derived.Test.YtlhnepjidbofnaaDoorShelf
import Derived.Lib.Builder
import Derived.Lib.UnsafeStr
namespace Go.Vx
open Go.RowKit Go.WideShapes Go.ChangeShapes

/-- A text's bytes put behind a slice of one's own. -/
theorem append_str {P : Program} {t u ty e : TypeId} (T : ElemT P t e 1 1) (hz : zeroOf P e = some (.int .u8 0)) (hu : P.underlying u = some .string) {H : PHeap} {oa : Option Addr} {n c : Nat} {xs : List Value} (hown : Owns H e 1 oa n c xs)
    {s : ByteArray} (hpos : 0 < s.size) (hsm : n + s.size ≤ 100000000) {K : Value → PHeap → Prop}
    (hK : ∀ a c' H', Owns H' e 1 (some a) (n + s.size) c' (xs ++ Lib.strCells s) → Frame oa H H' → Fresh oa (some a) H → K (.slice (some a) (n + s.size) c') H') :
    EvV P (Builtin.append_ #[t, u] ty #[.slice oa n c, .string s]) H K := by
  obtain ⟨i, z, hi, hz0, hsz, hby, hzs⟩ := T.info
  have hz1 : i.zero = some (.int .u8 0) := by unfold zeroOf at hz; rw [hi] at hz; exact hz
  have h63 : n + s.size ≤ maxLen := by simp only [maxLen]; omega
  refine ⟨fun w hs => ?_⟩
  have hxl : xs.length = n := by have := hown.len; omega
  have hlen : (xs ++ Lib.strCells s).length = (n + s.size) * 1 := by rw [List.length_append, hxl, Lib.strCells_length, Nat.mul_one]
  rcases hown.row with ⟨rfl, rfl, rfl⟩ | ⟨g, cur, rfl, hg, hnc, hcm, hcs, htk⟩
  · have hx : xs = [] := List.eq_nil_of_length_eq_zero hxl
    subst hx
    obtain ⟨v', w', hrun, ho, hgr, hiff⟩ := Lib.run_append_own_string (P := P) w w.heap.size t u ty e i T.under hu hi hz1 hsz hby (.slice none 0 0) 0 [] (World.ownsRow_nil w _ e 1) s h63 (by omega) (Nat.le_refl _)
    rcases ho.2 with ⟨rfl, e0⟩ | ⟨g, cap, cur, rfl, hbg, hgc, hnc, hcm, hcs, htk⟩
    · omega
    · refine ⟨_, w', H.upd g (.cells cur e (0, 0)), hrun, grown_frame hs hgr (fun _ h => by cases h) hgc hbg rfl, hK _ _ _ ⟨hlen, .inr ⟨g, cur, rfl, upd_eq .., hnc, hcm, hcs, htk⟩⟩ (fun k o hk _ => ?_) (fun a' e => ?_)⟩
      · rw [upd_ne _ _ (fun e => by have := sees_lt hs hk; omega)]; exact hk
      · cases e; exact .inr (sees_none hs hbg)
  · have hgw := hs g _ hg
    have hsl := Lib.strCells_length s
    have hcs' : cur.size = c := by omega
    by_cases hr : n + s.size ≤ c
    · have hrun := Lib.run_append_room_string (P := P) w t u ty e i T.under hu hi hsz g n c cur hgw s hr (by omega)
      refine ⟨_, _, H.upd g (.cells (cur.toList.take n ++ Lib.strCells s ++ cur.toList.drop (n + s.size)).toArray e (0, 0)), hrun, setRow_nx hs hg _, hK _ _ _ ⟨hlen, .inr ⟨g, _, rfl, upd_eq .., hr, hcm, ?_, ?_⟩⟩ (fun k o hk hne => by rw [upd_ne _ _ (hne _ rfl)]; exact hk) (fun a' e => .inl ⟨_, rfl, by cases e; rfl⟩)⟩
      · simp only [List.size_toArray, List.length_append, List.length_take, List.length_drop, Array.length_toList]
        omega
      · have e1 : (cur.toList.take n ++ Lib.strCells s).length = (n + s.size) * 1 := by
          simp only [List.length_append, List.length_take, Array.length_toList]
          omega
        rw [Nat.mul_one] at htk
        rw [← e1, List.take_left, htk]
    · have hcells : ∀ j v, xs[j]? = some v → w.cell? ((⟨g, 0, none⟩ : Addr).add j) = some v := fun j v hj => hcell_world hs (hown.cell j v hj)
      have hn := Lib.run_append_grow_string (P := P) w t u ty e i _ T.under hu hi hz1 ⟨g, 0, none⟩ n c xs (by rw [hsz]; omega) hcells s (by omega) (by omega) (growslice_fits (by omega) (by rw [hby]; omega))
      have hge := grownCap_ge w (n + s.size) c e
      refine ⟨_, _, _, hn, (Nx.drew hs).trans (Nx.alloc (w := w.drew) hs _), hK _ _ _ ⟨hlen, .inr ⟨w.heap.size, _, rfl, upd_eq .., grownCap_ge .., grownCap_le_maxLen _ _ _ _ h63, ?_, ?_⟩⟩ (fun k o hk _ => ?_) (fun a' e => ?_)⟩
      · rw [Array.size_append, Array.size_append, List.size_toArray, List.size_toArray, size_zeroCells]
        simp only [Value.cells, List.size_toArray, List.length_cons, List.length_nil]
        omega
      · rw [Array.toList_append, Array.toList_append, Nat.mul_one]
        exact List.take_left' (by simp [hxl, hsl])
      · rw [upd_ne _ _ (fun e => by have := sees_lt hs hk; have e : k = w.heap.size := e; omega)]; exact hk
      · cases e; exact .inr (sees_none hs (Nat.le_refl _))
end Go.Vx
namespace Go.Mdl
open Go.Vx Go.Vc Go.Proofs

/-- The tables of the library's quoting lie in a heap. -/
structure Tabs (F : PHeap) (T : Lib.PrintTabs) : Prop where
  out : ∀ w, Sees F w → Lib.PrintTabsAt 2 3 4 5 T w ∧ Lib.Utf8Tabs 0 1 w
theorem sees_sub {F H : PHeap} {w : World} (h : Sub F H) (hs : Sees H w) : Sees F w := fun k o hk => hs k o (h.le k o hk)
theorem Tabs.mono {F H : PHeap} {T : Lib.PrintTabs} (h : Tabs F T) (hs : Sub F H) : Tabs H T := ⟨fun w hw => h.out w (sees_sub hs hw)⟩
theorem nx_below {H : PHeap} {w w' : World} (hs : Sees H w) (h : RowKit.Below w.heap.size w w') : Nx H H w w' :=
  ⟨h.os, h.tape, h.output, h.size, fun k hk _ => h.block k hk, fun k hk => .inl hk, fun k o hk => by rw [h.block k (sees_lt hs hk)]; exact hs k o hk⟩
theorem quote_ok {T : Lib.PrintTabs} {H : PHeap} (hT : Tabs H T) (s : ByteArray) (hlen : s.size ≤ 100000) : Triple Tryd.prog 45 #[.string s] H fun v H' => v = .string (strOfNums (Lib.quoteZ T s)) ∧ H' = H :=
  ⟨fun w hs => (Tryd.strconv_Quote T s w (by omega) (hT.out w hs).1 (hT.out w hs).2).mono fun _ _ ⟨h1, h2⟩ => ⟨_, H, h1, nx_below hs h2, rfl, rfl⟩⟩
def boolT (b : Bool) : ByteArray := if b then ⟨#[116, 114, 117, 101]⟩ else ⟨#[102, 97, 108, 115, 101]⟩
theorem fmtBool_ok (b : Bool) : Pure Tryd.prog 44 #[.bool b] (.string (boolT b)) := fun H =>
  fmtBool.vc b H _ (Triple.mono (Q := fun v H' => v = .string (boolT b) ∧ H' = H) (fmtBool1.vc b H _ ⟨fun e => by subst e; exact ⟨rfl, rfl⟩, fun e => by subst e; exact ⟨rfl, rfl⟩⟩) fun v H' h => ⟨_, h.1, rfl, h.2⟩)

/-! ### The builder -/
structure Bld (F H : PHeap) (k : Nat) (l : List Int) : Prop where
  sub : Sub F H
  off : F k = none
  row : ∃ p oa n c, Bx H k 90 [.pointer p, .slice oa n c] ∧ (p = none ∨ p = at0 k) ∧ OwnL H 5 bE 1 oa n c l ∧ (∀ a, oa = some a → a.block ≠ k) ∧ Off F oa
theorem Bld.ob {k : Nat} : Ob (at0 k ≠ none) := ⟨by simp [at0]⟩
theorem fld0 (k : Nat) : fldA (at0 k) 0 = at0 k := by simp [fldA, at0, Addr.add_lit]
theorem bldInfo : ∃ j, Tryd.prog.info? 90 = some j ∧ j.size ≠ 0 := by
  obtain ⟨j, h1, h2⟩ := Option.map_eq_some_iff.1 (show (Tryd.prog.info? 90).map (·.size) = some 2 by kernel_rfl)
  exact ⟨j, h1, by rw [h2]; decide⟩
theorem World.shape_of {w : World} {g : Nat} {c : Array Value} {e : TypeId} {z : Nat × Nat} (h : w.heap[g]? = some (.cells c e z)) : w.shape? g = some (e, c.size) := by
  simp only [World.shape?, h]
theorem freeze_eq {w : World} {g n : Nat} {c : Array Value} {e : TypeId} (h : w.heap[g]? = some (.cells c e (0, 0))) (hn : n ≠ 0) : w.freeze ⟨g, 0, none⟩ n = { w with heap := w.heap.setIfInBounds g (.cells c e (0, n)) } := by
  obtain ⟨hlt, hg⟩ := Array.getElem?_eq_some_iff.1 h
  unfold World.freeze
  rw [if_neg hn]
  congr 1
  refine Array.ext_getElem? fun i => ?_
  rw [Array.getElem?_modify, Array.getElem?_setIfInBounds]
  by_cases e1 : g = i
  · subst e1; simp [hlt, hg]
  · simp [e1]
theorem shape_bx {H : PHeap} {w : World} {k : Nat} {t : TypeId} {l : List Value} (hs : Sees H w) (hb : Bx H k t l) : w.shape? k = some (t, l.length) := by
  have := hs k _ hb
  simp [World.shape?, this]
theorem check_ok {F H : PHeap} {k : Nat} {l : List Int} (h : Bld F H k l) : Triple Tryd.prog 65 #[.pointer (at0 k)] H fun v H' => v = .tuple #[] ∧ Bld F H' k l := by
  obtain ⟨p, oa, n, c, hb, hp, ho, hne, hoff⟩ := h.row
  have hx := Bld.ob (k := k)
  obtain ⟨j, hj, hj0⟩ := bldInfo
  refine bCheck.vc (at0 k) H _ ⟨hx, hx, p, hb.fld (i := 0) rfl, fun hp0 => ?_, fun hp1 => ?_⟩
  · obtain rfl : p = none := by simpa using hp0
    refine ⟨fun w hs => ⟨_, w, H, Lib.run_to_unsafe w ⟨k, 0, none⟩ (by kernel_rfl) (by kernel_rfl) hj hj0 (shape_bx hs hb) (by simp), Nx.refl hs, at0 k, rfl, ?_⟩⟩
    refine ⟨fun w hs => ⟨_, w, H, ?_, Nx.refl hs, at0 k, rfl, ?_⟩⟩
    · rw [run_callFunc_extern (fn := Tryd.f79) Tryd.func79 (by kernel_rfl) (by kernel_rfl) (by kernel_rfl) (e := Extern.AbiNoEscape.same) (by kernel_rfl), Lib.run_noEscape]; rfl
    · refine ⟨fun w hs => ⟨_, w, H, Lib.run_from_unsafe w ⟨k, 0, none⟩ (by kernel_rfl) (by kernel_rfl) hj (shape_bx hs hb) (by kernel_rfl), Nx.refl hs, at0 k, rfl, hx, hx, _, hb.put (i := 0) (by simp), rfl, ?_⟩⟩
      exact ⟨Bx.sub_of h.sub h.off, h.off, at0 k, oa, n, c, Bx.new .., .inr rfl, ho.mono fun a o ha hk => by rw [upd_ne _ _ (hne a ha)]; exact hk, hne, hoff⟩
  · obtain rfl : p = at0 k := hp.resolve_left (fun e => by rw [e] at hp1; cases hp1)
    refine ⟨hx, hx, at0 k, hb.fld (i := 0) rfl, ⟨⟨_, fun w hs => Lib.run_neq_ptr_same w ⟨k, 0, none⟩ (by kernel_rfl) hj, false, rfl, (fun e => by cases e), fun _ => ⟨rfl, h⟩⟩⟩⟩
theorem byT : ElemT Tryd.prog 23 5 1 1 := .of (by kernel_rfl)
theorem bytesF (s : ByteArray) : Lib.strCells s = (bytesL s).flatMap bE := by
  unfold Lib.strCells bytesL
  rw [List.flatMap_map]
  induction s.data.toList with
  | nil => rfl
  | cons x l ih => simp only [List.map_cons, List.flatMap_cons]; rw [ih]; rfl
theorem write_ok {F H : PHeap} {k : Nat} {l : List Int} (h : Bld F H k l) {s : ByteArray} (hs0 : 0 < s.size) (hl : l.length + s.size ≤ 10000000) :
    Triple Tryd.prog 43 #[.pointer (at0 k), .string s] H fun v H' => v = .tuple #[.int .i64 s.size, .nilIface] ∧ Bld F H' k (l ++ bytesL s) := by
  have hx := Bld.ob (k := k)
  refine bWrite.vc (at0 k) s H _ ((check_ok h).mono ?_)
  rintro _ H1 ⟨rfl, h1⟩
  obtain ⟨p, oa, n, c, hb, hp, ho, hne, hoff⟩ := h1.row
  have hn : l.length = n := (ho.rd (E := bE) (sz := 1) (by omega) bLen).len
  refine ⟨rfl, hx, hx, oa, n, c, hb.fld (i := 1) rfl, append_str byT (by kernel_rfl) (by kernel_rfl) ho hs0 (by omega) fun a c' H2 ho2 hf hfr => ?_⟩
  have hb2 := hf.bx hb hne
  have hne2 := hfr.ne hb hne
  refine ⟨_, _, _, rfl, hx, hx, _, hb2.put (i := 1) (by simp), rfl, ?_⟩
  refine ⟨Bx.sub_of (hf.sub h1.sub hoff) h.off, h.off, p, some a, n + s.size, c', Bx.new .., hp, ?_, hne2, hfr.off h1.sub hoff⟩
  rw [bytesF, ← List.flatMap_append] at ho2
  exact Owns.mono ho2 fun a' o ha hk => by rw [upd_ne _ _ (hne2 a' ha)]; exact hk
theorem string_ok {F H : PHeap} {k : Nat} {l : List Int} (h : Bld F H k l) (h0 : l ≠ []) (hr : ∀ x ∈ l, 0 ≤ x ∧ x ≤ 255) (hl : l.length ≤ 10000000) :
    Triple Tryd.prog 46 #[.pointer (at0 k)] H fun v H' => v = .string (strOfNums l) ∧ Sub F H' := by
  have hx := Bld.ob (k := k)
  obtain ⟨p, oa, n, c, hb, hp, ho, hne, hoff⟩ := h.row
  have hn : l.length = n := (ho.rd (E := bE) (sz := 1) (by omega) bLen).len
  have hpos : 0 < l.length := List.length_pos_iff.2 h0
  rcases ho.row with ⟨rfl, rfl, rfl⟩ | ⟨g, cur, rfl, hg, hnc, hcm, hcs, htk⟩
  · omega
  have hkg : k ≠ g := fun e => hne _ rfl e.symm
  have hgF : F g = none := hoff _ rfl
  -- what the loads look at: all but the row
  have hsr : Sub (rest H [g]) H := rest_sub H [g]
  have hbr : Bx (rest H [g]) k 90 [.pointer p, .slice (some ⟨g, 0, none⟩) n c] := by unfold Bx; rw [rest_at (by simp [hkg])]; exact hb
  refine bString.vc (at0 k) H _ ⟨rest H [g], hsr, hx, hx, some ⟨g, 0, none⟩, n, c, hbr.fld (i := 1) rfl, hx, hx, some ⟨g, 0, none⟩, n, c, hbr.fld (i := 1) rfl, ?_⟩
  refine ⟨fun w hs => ⟨_, w, H, Lib.run_unsafeSliceData_row w _ _ _ n c (by omega), Nx.refl hs, some ⟨g, 0, none⟩, rfl, hsr, ?_⟩⟩
  have hback : bytesL (strOfNums l) = l := bytes_strOf hr
  refine ⟨fun w hs => ?_⟩
  have hgw := hs g _ hg
  have hcell : ∀ j x, (strOfNums l).data.toList[j]? = some x → w.cell? ((⟨g, 0, none⟩ : Addr).add j) = some (.int .u8 x.toNat) := fun j x hj => by
    refine hcell_world hs (ho.cell j _ ?_)
    have : (bytesL (strOfNums l))[j]? = some (x.toNat : Int) := by unfold bytesL; rw [List.getElem?_map, hj]; rfl
    rw [hback] at this
    have := flatMap_get (E := bE) (sz := 1) bLen l j _ this 0 (.int .u8 x.toNat) rfl
    simpa using this
  have hlen : (strOfNums l).data.toList.length = n := by rw [strOfNums_data, List.length_map]; exact hn
  have hrun := Lib.run_unsafeString_row (P := Tryd.prog) w 114 3 9 5 (by kernel_rfl) (by kernel_rfl) g cur.size (by exact World.shape_of hgw) (strOfNums l).data.toList (by intro e; rw [e] at hlen; simp at hlen; omega) (by rw [hlen]; omega) (by rw [hlen]; omega) hcell
  rw [hlen, freeze_eq hgw (by omega)] at hrun
  refine ⟨_, _, _, hrun, setBlock_nx hs hg _, _, rfl, ?_, Bx.sub_of h.sub hgF⟩
  congr 1
end Go.Mdl
