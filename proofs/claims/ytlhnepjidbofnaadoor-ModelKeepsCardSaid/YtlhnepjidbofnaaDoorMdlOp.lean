/- The laws' arguments: events, as the statement reads them; the tables of the library, as they are laid. -/
import Derived.Test.YtlhnepjidbofnaaDoorMdlU2
import Derived.Lib.LaidPrint
import Derived.PinnedBridge
namespace Go.Mdl
open Go.Vx Go.Vc Go.Proofs Go.Txt Go.Lab Go.Lib Go.Shelf

section
variable {H : Type} {enc : TypeId × Value → H} {W : World}
/-- Bytes. -/
theorem bytes_of {s : Sl Int} (hr : RdL (heapOf W) bE 1 s.oa s.n s.l) (hw : ∀ x ∈ s.l, (Lit.int .u8 x).wf = true) : RdL (heapOf W) bE 1 s.oa s.n (bytesL (strOfNums s.l)) := by
  rw [bytes_strOf fun n hn => wf8 (hw n hn)]
  exact hr
def evOf (x : Int × Int × Int × (Int × ByteArray × Sl Int) × (Int × Int × Sl Int × Sl ByteArray)) : EvW :=
  ⟨x.1, x.2.1, x.2.2.1, ⟨x.2.2.2.1.1, x.2.2.2.1.2.1, x.2.2.2.1.2.2.oa, x.2.2.2.1.2.2.n, x.2.2.2.1.2.2.c⟩, ⟨x.2.2.2.2.1, x.2.2.2.2.2.1, ⟨x.2.2.2.2.2.2.1.oa, x.2.2.2.2.2.2.1.n, x.2.2.2.2.2.2.1.c⟩, ⟨x.2.2.2.2.2.2.2.oa, x.2.2.2.2.2.2.2.n, x.2.2.2.2.2.2.2.c⟩⟩⟩
/-- An event. -/
theorem ev_opens : Opens enc Tryd.prog W 31 evE fun v => ∃ x, EvR0 (heapOf W) v x := by
  have oi : Opens enc Tryd.prog W 3 (intE .i64) _ := Opens.int Tryd.underlying3
  have o8 : Opens enc Tryd.prog W 5 bE _ := Opens.int Tryd.underlying5
  have oe : Opens enc Tryd.prog W 26 (intE .i64) _ := Opens.int Tryd.underlying26
  have ot : Opens enc Tryd.prog W 9 strE _ := Opens.str Tryd.underlying9
  have ob := Opens.slice Tryd.underlying23 o8 (sz := 1) (by kernel_rfl)
  have on := Opens.slice Tryd.underlying27 ot (sz := 1) (by kernel_rfl)
  have oo := Opens.struct Tryd.underlying25 (OpensF.cons oi (OpensF.cons ot (OpensF.one ob))) (by kernel_rfl) (by kernel_rfl)
  have oa := Opens.struct Tryd.underlying29 (OpensF.cons oe (OpensF.cons oi (OpensF.cons ob (OpensF.one on)))) (by kernel_rfl) (by kernel_rfl)
  refine (Opens.struct Tryd.underlying31 (OpensF.cons oi (OpensF.cons oi (OpensF.cons oi (OpensF.cons oo (OpensF.one oa))))) (by kernel_rfl) (by kernel_rfl)).map evOf (fun a => rfl) ?_
  rintro ⟨k, i, b, ⟨ok, os, od⟩, ae, az, ad, an⟩ ⟨_, _, _, ⟨_, _, hd⟩, _, _, hd2, hn⟩
  exact ⟨⟨k, i, ⟨ok, os, strOfNums od.l⟩, ⟨ae, az, strOfNums ad.l, an.l⟩⟩, rfl, rfl, ⟨rfl, rfl, bytes_of hd.1 hd.2.1⟩, ⟨rfl, rfl, bytes_of hd2.1 hd2.2.1, hn.1⟩⟩
theorem evL_of {s : Sl EvW} (hr : RdL (heapOf W) evE 10 s.oa s.n s.l) (hk : ∀ v ∈ s.l, ∃ x, EvR0 (heapOf W) v x) : ∃ l, EvL0 (heapOf W) s.oa s.n l := by
  obtain ⟨l, hl, hp⟩ := exists_list (n := s.l.length) (p := fun i x => ∀ v, s.l[i]? = some v → EvR0 (heapOf W) v x) fun i hi => by
    obtain ⟨x, hx⟩ := hk s.l[i] (List.getElem_mem hi)
    exact ⟨x, fun v hv => by rw [List.getElem?_eq_getElem hi] at hv; cases hv; exact hx⟩
  exact ⟨l, ⟨s.l, hr, hl.symm, fun i v x hv hx => hp i x hx v hv⟩⟩
end

/-- What lies in a world's heap lies in each heap that has it. -/
theorem cell_sees {W w : World} (hs : Sees (heapOf W) w) {a : Addr} {v : Value} (h : W.cell? a = some v) : w.cell? a = some v := by
  unfold World.cell? at h ⊢
  cases e : W.heap[a.block]? with
  | none => rw [e] at h; cases h
  | some o => rw [e] at h; rw [hs _ _ e]; exact h
theorem tab_sees {W w : World} (hs : Sees (heapOf W) w) {g : Nat} {k : IntKind} {t : List Nat} (h : TabSlice g k t W) : TabSlice g k t w := by
  obtain ⟨R, o, c, h1, h2⟩ := h
  exact ⟨R, o, c, cell_sees hs h1, fun j hj => cell_sees hs (h2 j hj)⟩
theorem tabs_of {W : World} (hT : PrintTabsAt 2 3 4 5 goPrintTabs W) (hU : Utf8Tabs 0 1 W) : Tabs (heapOf W) goPrintTabs :=
  ⟨fun _ hs => ⟨⟨tab_sees hs hT.1, tab_sees hs hT.2.1, tab_sees hs hT.2.2.1, tab_sees hs hT.2.2.2.1, hT.2.2.2.2⟩, ⟨fun c hc => cell_sees hs (hU.1 c hc), fun i hi => ⟨cell_sees hs (hU.2 i hi).1, cell_sees hs (hU.2 i hi).2⟩⟩⟩⟩
theorem tabs_laid {W : World} {l : List (String × DataW Unit)} (h : laidMet Tryd.prog l W) (h0 : ("unicode/utf8.first", Pinned.utf8First) ∈ l) (h1 : ("unicode/utf8.acceptRanges", acceptData) ∈ l)
    (h2 : ("strconv.isPrint16", Pinned.isPrint16) ∈ l) (h3 : ("strconv.isNotPrint16", Pinned.isNotPrint16) ∈ l) (h4 : ("strconv.isPrint32", Pinned.isPrint32) ∈ l) (h5 : ("strconv.isNotPrint32", Pinned.isNotPrint32) ∈ l) : Tabs (heapOf W) goPrintTabs := by
  have hU : Utf8Tabs 0 1 W := utf8Tabs_of_reads (ρ := Tryd.lays250_ren) { Tryd.lays250 with } ⟨by kernel_rfl, by kernel_rfl, by kernel_rfl, by kernel_rfl, by kernel_rfl, by kernel_rfl, by kernel_rfl⟩ (Pinned.utf8First_eq ▸ Lib.laidMet.reads h h0) (Lib.laidMet.reads h h1)
  have hT : PrintTabsAt 2 3 4 5 goPrintTabs W := printTabs_of_reads (ρ := Tryd.lays250_ren) { Tryd.lays250 with } ⟨by kernel_rfl, by kernel_rfl, by kernel_rfl, by kernel_rfl, by kernel_rfl, by kernel_rfl, by kernel_rfl, by kernel_rfl, by kernel_rfl, by kernel_rfl⟩
    (Pinned.isPrint16_eq ▸ Lib.laidMet.reads h h2) (Pinned.isNotPrint16_eq ▸ Lib.laidMet.reads h h3) (Pinned.isPrint32_eq ▸ Lib.laidMet.reads h h4) (Pinned.isNotPrint32_eq ▸ Lib.laidMet.reads h h5)
  exact tabs_of hT hU
end Go.Mdl
