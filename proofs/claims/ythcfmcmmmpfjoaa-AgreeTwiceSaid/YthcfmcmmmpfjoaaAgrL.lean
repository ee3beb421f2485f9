/- What the laws of an agreement share: what is too much, and the document's example. -/
import Derived.Test.YthcfmcmmmpfjoaaAgrF
import Derived.Test.YthcfmcmmmpfjoaaVcAgreeL
namespace Go.Agr
open Go.Vx Go.Vc Go.Proofs Go.Pln Go.Stl
open Go.Rnd (takesG insG froms againG RdS Both OkM AscG)

/-- What is known beside an agreement grows. -/
theorem AgK.ext {F F' H H' : PHeap} {k kr : Nat} {s : St} (h : AgK F H k kr s) (hs : Sub H H') (hF : Sub F F') (hF' : Sub F' H') (hk : F' k = none) (hn : ∀ q o, F' q = some o → F q = some o ∨ H q = none) : AgK F' H' k kr s := by
  obtain ⟨h1, h2, F1, got, x, h3, h4, h5, h6, h7, h8, h9⟩ := h
  refine ⟨hk, ⟨h2.pok, h2.wt, h2.gin, h2.asc, fun m hm => (h2.okG m hm).mono hF, fun m hm => (h2.okS m hm).mono hF⟩, grow F1 (rest H [k]) (rest H' [k]), got, x, h3, h4, ?_, RdS_grow h6 (rest_mono hs), h7, h8.sub hs, h9.mono (grow_le h6.sub)⟩
  refine ⟨fun q o hq => ?_⟩
  rcases hn q o hq with h | h
  · exact (h5.trans (grow_le h6.sub)).le q o h
  · have hqk : q ≠ k := fun e => by rw [e, hk] at hq; cases hq
    rw [grow_at (by rw [rest_at (by simpa using hqk)]; exact h), rest_at (by simpa using hqk)]
    exact hF'.le q o hq
structure MsgR (H : PHeap) (m : Msg) : Prop where
  who : RdL H iE 1 m.2.2.2.2.2.2.2.2.2.2.1.oa m.2.2.2.2.2.2.2.2.2.2.1.n m.2.2.2.2.2.2.2.2.2.2.1.l
  names : RdL H strE 1 m.2.2.2.2.2.2.2.2.2.2.2.1.oa m.2.2.2.2.2.2.2.2.2.2.2.1.n m.2.2.2.2.2.2.2.2.2.2.2.1.l
  data : RdL H Rnd.bE 1 m.2.2.2.2.2.2.2.2.2.2.2.2.oa m.2.2.2.2.2.2.2.2.2.2.2.2.n m.2.2.2.2.2.2.2.2.2.2.2.2.l
theorem farL_ok {H : PHeap} {oa : Option Addr} {n c : Nat} {l : List Msg} (hl : RdL H mE 13 oa n l) (hm : ∀ m ∈ l, MsgR H m) (hn : n ≤ maxLen) :
    Triple Try.prog 7 #[.slice oa n c] H fun v H' => ∃ b, v = .bool b ∧ H' = H ∧ (b = false → n ≤ 200 ∧ ∀ m ∈ l, OkM H m) := by
  have hll := hl.len
  have hmx : maxLen ≤ 9223372036854775807 := by decide
  refine lawFar.vc oa n c H _ ⟨fun t H' => match t with | [.int _ i] => 0 ≤ i ∧ i ≤ n ∧ H' = H ∧ ∀ m ∈ l.take i.toNat, OkM H m | _ => False, fun t _ => match t with | [.int _ i] => (n - i).toNat | _ => 0, ⟨by omega, by omega, rfl, by simp⟩, ?_⟩
  rintro i H1 ⟨i0, i1, hH, hall⟩
  obtain rfl := hH.symm
  obtain ⟨i, rfl⟩ : ∃ j : Nat, i = j := ⟨i.toNat, by omega⟩
  rw [Int.toNat_natCast] at hall
  refine ⟨fun hi => ?_, fun hi => ?_⟩
  · have hi' : i < n := by simpa using hi
    obtain ⟨x, hx, hxr⟩ := hl.ex (i := (i : Int)) (by omega) (by omega)
    rw [Int.toNat_natCast] at hx
    have hx0 := hm x (List.mem_of_getElem? hx)
    have hfar := Rnd.far_ok hx0.names
    have key : ∀ b : Bool, (b = false → x.2.2.2.2.2.2.2.2.2.2.1.n ≤ 100000 ∧ x.2.2.2.2.2.2.2.2.2.2.2.1.n ≤ 100000 ∧ x.2.2.2.2.2.2.2.2.2.2.2.2.n ≤ 100000) → b = false → ∀ m ∈ l.take (i + 1), OkM H m := fun b hb e m hm' => by
      rw [List.take_add_one, hx] at hm'
      rcases List.mem_append.1 hm' with h | h
      · exact hall m h
      · simp at h; subst h; exact ⟨hx0.who, hx0.names, hx0.data, hb e⟩
    obtain ⟨y1, y2, y3, y4, y5, y6, y7, y8, y9, y10, ⟨ya, yb, yc, yl⟩, ⟨za, zb, zc, zl⟩, ⟨wa, wb, wc, wl⟩⟩ := x
    refine ⟨hl.ob (by omega) (by omega), y1, y2, y3, y4, y5, y6, y7, y8, y9, y10, ya, yb, yc, za, zb, zc, wa, wb, wc, hxr, hfar.mono ?_⟩
    rintro _ H28 ⟨b, rfl, hH, hb⟩
    obtain rfl := hH.symm
    refine ⟨b, rfl, fun e => ⟨true, rfl, rfl, fun e => by cases e⟩, fun e => ?_⟩
    rw [wrap64 (by omega) (by omega)]
    exact ⟨⟨by omega, by omega, rfl, by rw [show ((i : Int) + 1).toNat = i + 1 by omega]; exact key b hb e⟩, ⟨by simp only; omega⟩⟩
  · have hi' : ¬ i < n := by simpa using hi
    rw [List.take_of_length_le (by omega)] at hall
    exact ⟨_, rfl, rfl, fun e => ⟨by simp at e; omega, hall⟩⟩

/-! ### The document's example -/
def P8 : Plan := ⟨4, 1, 2, 3, 16, 3⟩
def aMsg (j : Int) (k : Nat) : Msg := (14, j, 0, 5, ⟨#[97]⟩, 0, 0, 0, 0, 0, ⟨at0 k, 3, 3, [0, 0, 1]⟩, ⟨none, 0, 0, []⟩, ⟨none, 0, 0, []⟩)
def aRun : List Nat → St
  | [] => ((init0 P8 5 ⟨#[97]⟩ false false 10).ask mask).1
  | k :: ks => ((aRun ks).take (aMsg (ks.length + 1) k)).1
theorem aRun_end (k1 k2 k3 k4 : Nat) : (aRun [k4, k3, k2, k1]).over = true ∧ (aRun [k4, k3, k2, k1]).ok = true ∧ (aRun [k4, k3, k2, k1]).fixed = false ∧ (aRun [k4, k3, k2, k1]).value.pr = false ∧ (aRun [k4, k3, k2, k1]).value.at_ = 0 ∧ (aRun [k4, k3, k2, k1]).value.ep = 0 ∧ (aRun [k4, k3, k2, k1]).value.sz = 0 := ⟨by kernel_rfl, by kernel_rfl, by kernel_rfl, by kernel_rfl, by kernel_rfl, by kernel_rfl, by kernel_rfl⟩
theorem askAll_get {p : Plan} {b : Int} {nm : ByteArray} {m x : Msg} {i : Nat} (h : (askAll p b nm m)[i]? = some x) : Rnd.to_ x = (i : Int) + 1 := by
  unfold askAll ids at h
  rw [List.getElem?_map, List.getElem?_map] at h
  by_cases hi : i < p.n.toNat
  · rw [List.getElem?_range hi] at h
    simp at h
    rw [← h]
  · rw [List.getElem?_eq_none (by simp; omega)] at h
    simp at h
theorem alive_ok (H : PHeap) : Triple Try.prog 8 #[] H fun v H' => v = .bool true ∧ Sub H H' := by
  refine lawAlive.vc H _ (l8Some.vc H _ ⟨4, 1, 2, 3, 16, 3, rfl, (settle_ok (p := P8) (b := 5) (nm := ⟨#[97]⟩) (force := false) (by decide)).mono ?_⟩)
  rintro _ H10 ⟨k, b, n, c, F0, rfl, hk, hF0, hrd, hA⟩
  have hn : n = 4 := hrd.len.symm
  subst hn
  have hA0 : AgS F0 H10 k (aRun []) := hA
  refine ⟨at0 k, b, 4, c, rfl, fun t H' => match t with | [.int _ i] => 0 ≤ i ∧ i ≤ 4 ∧ ∃ (F : PHeap) (ks : List Nat), Sub F0 F ∧ (ks.length : Int) = i ∧ AgS F H' k (aRun ks) | _ => False, fun t _ => match t with | [.int _ i] => (4 - i).toNat | _ => 0, ⟨by omega, by omega, F0, [], Sub.refl _, rfl, hA0⟩, ?_⟩
  rintro i H18 ⟨i0, i1, F, ks, hF, hlen, kr, hA⟩
  refine ⟨fun hi => ?_, fun hi => ?_⟩
  · have hi' : i < 4 := by simpa using hi
    have hrd18 := hrd.mono (hF.trans hA.sub)
    obtain ⟨x, hx, hxr⟩ := hrd18.ex (i := i) (by omega) (by omega)
    have hto := askAll_get hx
    rw [show ((i.toNat : Nat) : Int) = (ks.length : Int) by omega] at hto
    obtain ⟨y1, y2, y3, y4, y5, y6, y7, y8, y9, y10, ⟨ya, yb, yc, yl⟩, ⟨za, zb, zc, zl⟩, ⟨wa, wb, wc, wl⟩⟩ := x
    have hto' : y3 = (ks.length : Int) + 1 := hto
    refine ⟨hrd18.ob (by omega) (by omega), y1, y2, y3, y4, y5, y6, y7, y8, y9, y10, ya, yb, yc, za, zb, zc, wa, wb, wc, hxr, fun k38 hk38 => ?_⟩
    have s38 := Sub.upd (.cells #[vI 0, vI 0, vI 1] 3 (0, 0)) hk38
    have hFk : F k38 = none := hA.sub.none hk38
    have hkk : k ≠ k38 := fun e => by
      obtain ⟨_, _, _, _, _, _, _, _, _, _, h8, _⟩ := hA
      unfold Bx at h8
      rw [e, hk38] at h8; cases h8
    have hA' : AgK (F.upd k38 (.cells #[vI 0, vI 0, vI 1] 3 (0, 0))) (H18.upd k38 (.cells #[vI 0, vI 0, vI 1] 3 (0, 0))) k kr (aRun ks) := by
      refine hA.ext s38 (Sub.upd _ hFk) ⟨fun q o hq => ?_⟩ (by rw [Vx.upd_ne _ _ hkk]; exact hA.off) fun q o hq => ?_
      · by_cases e : q = k38
        · rw [e, Vx.upd_eq] at hq ⊢; exact hq
        · rw [Vx.upd_ne _ _ e] at hq ⊢; exact hA.sub.le q o hq
      · by_cases e : q = k38
        · rw [e]; exact .inr hk38
        · rw [Vx.upd_ne _ _ e] at hq; exact .inl hq
    have hok : OkM (F.upd k38 (.cells #[vI 0, vI 0, vI 1] 3 (0, 0))) (aMsg ((ks.length : Int) + 1) k38) :=
      ⟨Bx.rd (E := iE) (l := [0, 0, 1]) Rnd.iLen (Bx.new F k38 3 [vI 0, vI 0, vI 1]), RdL.nil _ _ _, RdL.nil _ _ _, by simp [aMsg], by simp [aMsg], by simp [aMsg]⟩
    have ht := take_ok ⟨kr, hA'⟩ hok
    rw [← hto'] at ht
    refine ht.mono ?_
    rintro _ H40 ⟨b', n', c', rfl, _, hA40⟩
    rw [Rnd.wrapS (by omega) (by omega)]
    refine ⟨b', n', c', rfl, ⟨by omega, by omega, _, k38 :: ks, hF.trans (Sub.upd (.cells #[vI 0, vI 0, vI 1] 3 (0, 0)) hFk), by rw [List.length_cons]; omega, ?_⟩, ⟨by simp only; omega⟩⟩
    rw [hto'] at hA40
    exact hA40
  · have hi' : ¬ i < 4 := by simpa using hi
    have hl4 : ks.length = 4 := by omega
    match ks, hl4 with
    | [k4, k3, k2, k1], _ =>
      obtain ⟨e1, e2, e3, e4, e5, e6, e7⟩ := aRun_end k1 k2 k3 k4
      refine (done_ok ⟨kr, hA⟩).mono ?_
      rintro _ H45 ⟨hH, hv⟩
      rcases hv with ⟨ho, _⟩ | ⟨ho, x, rfl, _⟩
      · rw [e1] at ho; cases ho
      · refine ⟨_, _, _, _, _, _, _, _, _, _, _, _, _, _, _, _, rfl, ?_, ?_⟩
        · rw [e2, e3, e4, e5, e6, e7]; rfl
        · rw [hH]; exact hF0.trans (hF.trans hA.sub)
end Go.Agr
