/- An agreement begins twice: the object, and the document's. The law AgreeEnds. -/
import Derived.Test.YthcfmcmmmpfjoaaAgrR
namespace Go.Agr
open Go.Vx Go.Vc Go.Proofs Go.Pln Go.Stl
open Go.Rnd (takesG insG froms againG RdR RV OkM AscG)

theorem AgK.weak {F F0 H : PHeap} {k kr : Nat} {s : St} (h : AgK F H k kr s) (hs : Sub F0 F) (hG : ∀ m ∈ s.G, OkM F0 m) (hS : ∀ m ∈ s.said, OkM F0 m) : AgK F0 H k kr s := by
  obtain ⟨h1, h2, F1, got, x, h3, h4, h5, h6⟩ := h
  exact ⟨hs.none h1, ⟨h2.pok, h2.wt, h2.gin, h2.asc, hG, hS⟩, F1, got, x, h3, h4, hs.trans h5, h6⟩
/-- What is asked for. -/
def madeS (p : Plan) (b : Int) (nm : ByteArray) (fx flag : Bool) (v : Val) : St × List Msg :=
  if fx then (init0 p b nm false flag (IntKind.i64.wrap (IntKind.i64.wrap (2 * b) + 1))).fix v else (init0 p b nm flag false (IntKind.i64.wrap (2 * b))).ask mask
abbrev Made (H : PHeap) (r : St × List Msg) (v : Value) (H' : PHeap) : Prop := ∃ k u b n c b2 n2 c2 G R, v = .tuple #[.pointer (at0 k), u, .slice b n c, .slice b2 n2 c2] ∧ AgS H G k r.1 ∧ RdL G mE 13 b n r.2 ∧ RefA R u r.1 ∧ RdL R mE 13 b2 n2 r.2 ∧
  Sub H G ∧ Sub H R ∧ Sub G H' ∧ Sub R H' ∧ ∀ q, H q = none → G q = none ∨ R q = none
theorem made_ok {H : PHeap} {p : Plan} {b : Int} {nm : ByteArray} {fx flag : Bool} {v : Val} (hp : p.ok = true) :
    Triple Try.prog 13 #[p.v, .agg #[vI b, .string nm, .bool fx, .bool flag, .bool v.pr, vI v.at_, vI v.ep, vI v.sz]] H (Made H (madeS p b nm fx flag v)) := by
  refine lawMade.vc p.n p.t p.l p.w p.s p.r b nm fx flag v.pr v.at_ v.ep v.sz H _ fun k15 hk15 => ⟨fun e => ?_, fun e => ?_⟩
  · refine ((fix_ok (p := p) (b := b) (nm := nm) (live := flag) (v := v) (H := H) hp).frame (Sub.upd _ hk15)).mono ?_
    rintro _ H17 ⟨G, ⟨k, bb, n, c, F, rfl, hk, hF, hrd, kr, hA⟩, hG, hkeep⟩
    have b15 := hkeep k15 _ (Bx.new H k15 tA zA) hk15
    have sG : Sub H G := hF.trans hA.sub
    refine ⟨at0 k, bb, n, c, rfl, ((raFix_ok (p := p) (b := b) (nm := nm) (live := flag) (v := v) (H := H) hp).frame (sG.trans hG)).mono ?_⟩
    rintro _ H23 ⟨R, ⟨u, a2, n2, c2, rfl, hR, hrd2, hsR⟩, hRs, hkeep2⟩
    obtain ⟨b23, o23⟩ := hkeep2 k15 _ b15.1 hk15
    have b23' : Bx H23 k15 tA zA := b23
    obtain ⟨r, x, hu, hrow⟩ := hR.row
    have hGs : Sub G H23 := ⟨fun q o hq => by
      cases hq0 : H q with
      | some o' =>
        have h1 := sG.le q o' hq0
        rw [hq] at h1
        have h2 := (hsR.trans hRs).le q o' hq0
        rw [h2, h1]
      | none => exact (hkeep2 q o (hG.le q o hq) hq0).1⟩
    have w65 := b23'.writes (cellsV ((init0 p b nm false flag (IntKind.i64.wrap (IntKind.i64.wrap (2 * b) + 1))).fix v).1 (stt ((init0 p b nm false flag (IntKind.i64.wrap (IntKind.i64.wrap (2 * b) + 1))).fix v).1) r x) rfl
    have b65 : Bx (H23.upd k15 (.cells (cellsV ((init0 p b nm false flag (IntKind.i64.wrap (IntKind.i64.wrap (2 * b) + 1))).fix v).1 (stt ((init0 p b nm false flag (IntKind.i64.wrap (IntKind.i64.wrap (2 * b) + 1))).fix v).1) r x).toArray tA (0, 0))) k15 tA (cellsV ((init0 p b nm false flag (IntKind.i64.wrap (IntKind.i64.wrap (2 * b) + 1))).fix v).1 (stt ((init0 p b nm false flag (IntKind.i64.wrap (IntKind.i64.wrap (2 * b) + 1))).fix v).1) r x) := Bx.new _ _ _ _
    refine ⟨_, _, _, _, _, _, _, _, _, _, _, _, _, _, _, _, _, _, _, _, _, _, _, _, _, _, _, _, _, _, _, _, _, _, _, _, _, a2, n2, c2, by rw [hu], H, hsR.trans hRs, _, w65, _, _, _, _, _, _, _, _, _, _, _, _, _, _, _, _, _, _, _, _, _, _, _, _, _, _, _, _, _, _, _, _, _, _, _, _, _, b65.reads, ?_⟩
    rw [madeS, if_pos e]
    refine ⟨k, _, bb, n, c, a2, n2, c2, G, R, rfl, ⟨kr, hA.weak hF (fun m hm => by cases hm) (fun m hm => by cases hm)⟩, hrd.mono hA.sub, by rw [← hu]; exact hR, hrd2, sG, hsR, hGs.wr b15.2, hRs.wr o23, fun q hq => ?_⟩
    cases hg : G q with
    | none => exact .inl rfl
    | some o => exact .inr (hkeep2 q o (hG.le q o hg) hq).2
  · refine ((settle_ok (p := p) (b := b) (nm := nm) (force := flag) (H := H) hp).frame (Sub.upd _ hk15)).mono ?_
    rintro _ H17 ⟨G, ⟨k, bb, n, c, F, rfl, hk, hF, hrd, kr, hA⟩, hG, hkeep⟩
    have b15 := hkeep k15 _ (Bx.new H k15 tA zA) hk15
    have sG : Sub H G := hF.trans hA.sub
    refine ⟨at0 k, bb, n, c, rfl, ((raSettle_ok (p := p) (b := b) (nm := nm) (force := flag) (H := H) hp).frame (sG.trans hG)).mono ?_⟩
    rintro _ H23 ⟨R, ⟨u, a2, n2, c2, rfl, hR, hrd2, hsR⟩, hRs, hkeep2⟩
    obtain ⟨b23, o23⟩ := hkeep2 k15 _ b15.1 hk15
    have b23' : Bx H23 k15 tA zA := b23
    obtain ⟨r, x, hu, hrow⟩ := hR.row
    have hGs : Sub G H23 := ⟨fun q o hq => by
      cases hq0 : H q with
      | some o' =>
        have h1 := sG.le q o' hq0
        rw [hq] at h1
        have h2 := (hsR.trans hRs).le q o' hq0
        rw [h2, h1]
      | none => exact (hkeep2 q o (hG.le q o hq) hq0).1⟩
    have w65 := b23'.writes (cellsV ((init0 p b nm flag false (IntKind.i64.wrap (2 * b))).ask mask).1 (stt ((init0 p b nm flag false (IntKind.i64.wrap (2 * b))).ask mask).1) r x) rfl
    have b65 : Bx (H23.upd k15 (.cells (cellsV ((init0 p b nm flag false (IntKind.i64.wrap (2 * b))).ask mask).1 (stt ((init0 p b nm flag false (IntKind.i64.wrap (2 * b))).ask mask).1) r x).toArray tA (0, 0))) k15 tA (cellsV ((init0 p b nm flag false (IntKind.i64.wrap (2 * b))).ask mask).1 (stt ((init0 p b nm flag false (IntKind.i64.wrap (2 * b))).ask mask).1) r x) := Bx.new _ _ _ _
    refine ⟨_, _, _, _, _, _, _, _, _, _, _, _, _, _, _, _, _, _, _, _, _, _, _, _, _, _, _, _, _, _, _, _, _, _, _, _, _, a2, n2, c2, by rw [hu], H, hsR.trans hRs, _, w65, _, _, _, _, _, _, _, _, _, _, _, _, _, _, _, _, _, _, _, _, _, _, _, _, _, _, _, _, _, _, _, _, _, _, _, _, _, b65.reads, ?_⟩
    rw [madeS, if_neg (by rw [e]; decide)]
    refine ⟨k, _, bb, n, c, a2, n2, c2, G, R, rfl, ⟨kr, hA.weak hF (fun m hm => by cases hm) (fun m hm => by cases hm)⟩, hrd.mono hA.sub, by rw [← hu]; exact hR, hrd2, sG, hsR, hGs.wr b15.2, hRs.wr o23, fun q hq => ?_⟩
    cases hg : G q with
    | none => exact .inl rfl
    | some o => exact .inr (hkeep2 q o (hG.le q o hg) hq).2
end Go.Agr
