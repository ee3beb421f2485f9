/- The executor is right: what it asks of a function is enough for every call of it. -/
import Derived.Test.YtkmojhkmekijoabVxM
import Derived.KernelRfl
namespace Go.Vx
section
variable {P : Program} {cx : Cx} {H0 : PHeap} {w0 : World}

theorem mem_app_l {α : Type} {t : α} {x y : List α} (h : t ∈ x) : t ∈ x ++ y := List.mem_append.2 (.inl h)
theorem mem_app_r {α : Type} {t : α} {x y : List α} (h : t ∈ y) : t ∈ x ++ y := List.mem_append.2 (.inr h)
theorem J.drew {β : Nat → Option Nat} {st : St} {H : PHeap} {a : Act} {w : World} (h : J H0 w0 β st H a w) : J H0 w0 β st H a { w with drawn := w.drawn + 1 } := h.step (Nx.drew h.sees)
theorem pCode_len : ∀ (c : Code) {st st' : St}, pCode P c st = some st' → st'.tm.length = st.tm.length ∧ st'.bx = st.bx
  | .skip, st, st', h => by simp [pCode] at h; rw [h]; exact ⟨rfl, rfl⟩
  | .region _ ops false, st, st', h => by
    simp only [pCode] at h
    exact ⟨pOps_len _ h, pOps_bx _ h⟩
  | .region _ ops true, st, st', h => by simp [pCode] at h
  | .seq a b, st, st', h => by
    simp only [pCode] at h
    split at h
    · rename_i s1 h1
      obtain ⟨x1, x2⟩ := pCode_len a h1
      obtain ⟨y1, y2⟩ := pCode_len b h
      exact ⟨y1.trans x1, y2.trans x2⟩
    · cases h
  | .cond c a b, st, st', h => by
    simp only [pCode] at h
    split at h
    · exact pCode_len a h
    · exact pCode_len b h
    · split at h
      · obtain rfl := Option.some.inj h; exact ⟨by simp [mergeTm_len], rfl⟩
      · cases h
    · cases h
  | .block _ _, st, st', h => by simp [pCode] at h
  | .loop _, st, st', h => by simp [pCode] at h
  | .rangeFunc _ _ _ _, st, st', h => by simp [pCode] at h
  | .exit _, st, st', h => by simp [pCode] at h
  | .scope _, st, st', h => by simp [pCode] at h
  | .label _, st, st', h => by simp [pCode] at h
  | .goto _, st, st', h => by simp [pCode] at h
  | .ret, st, st', h => by simp [pCode] at h
  | .refuse _, st, st', h => by simp [pCode] at h
theorem pCode_sound : ∀ (c : Code) {st st' : St} {β : Nat → Option Nat} {H : PHeap} {a : Act} {w : World} {Q : Exit → Act → World → Prop}, pCode P c st = some st' → J H0 w0 β st H a w →
    (∀ a', J H0 w0 β st' H a' w → Kp (writtenC c) a a' → Q .normal a' w) → c.wp P Q a w
  | .skip, st, st', β, H, a, w, Q, h, hJ, hQ => by
    simp [pCode] at h
    subst h
    exact wp_skip (hQ a hJ (Kp.refl _ _))
  | .region _ ops false, st, st', β, H, a, w, Q, h, hJ, hQ => by
    simp only [pCode] at h
    refine wp_region (pOps_sound (S := fun w' => w' = w) textRuns trivial (fun w' e => by subst e; exact hJ.bx) rfl trivial (List.range ops.size) () h hJ.tm fun a' ha' => ?_)
    have hb := pOps_bx _ h
    refine hQ a' ⟨ha'.tm, by rw [hb]; exact hJ.bx, by rw [hb]; exact hJ.dom, hJ.inj, hJ.nloc, hJ.old, hJ.nx, by rw [ha'.dfr]; exact hJ.dfr⟩ ⟨by rw [ha'.tm.size, pOps_len _ h, hJ.tm.size], fun t ht => ha'.keep t fun hm => ht (writtenAt_range ops _ t hm)⟩
  | .region _ ops true, st, st', β, H, a, w, Q, h, hJ, hQ => by simp [pCode] at h
  | .seq c d, st, st', β, H, a, w, Q, h, hJ, hQ => by
    simp only [pCode] at h
    split at h
    · rename_i s1 h1
      refine wp_seq (pCode_sound c h1 hJ fun a' hJ' hk => ?_)
      exact pCode_sound d h hJ' fun a'' hJ'' hk' => hQ a'' hJ'' ((hk.mono fun _ => mem_app_l).trans (hk'.mono fun _ => mem_app_r))
    · cases h
  | .cond x c d, st, st', β, H, a, w, Q, h, hJ, hQ => by
    simp only [pCode] at h
    have hx := hJ.tm.ev x
    split at h
    · rename_i he
      rw [he] at hx
      exact wp_cond_true hx (pCode_sound c h hJ fun a' hJ' hk => hQ a' hJ' (hk.mono fun _ => mem_app_l))
    · rename_i he
      rw [he] at hx
      exact wp_cond_false hx (pCode_sound d h hJ fun a' hJ' hk => hQ a' hJ' (hk.mono fun _ => mem_app_r))
    · rename_i t he
      rw [he] at hx
      split at h
      · rename_i s1 s2 h1 h2
        obtain rfl := Option.some.inj h
        have l1 := pCode_len c h1
        have l2 := pCode_len d h2
        rw [kbAt_len, kbAt_bx] at l1 l2
        cases t
        · refine wp_cond_false hx (pCode_sound d h2 (hJ.kbAt hx) fun a' hJ' hk => ?_)
          have hk' := hk.mono (W' := writtenC c ++ writtenC d) fun _ => mem_app_r
          refine hQ a' ⟨hJ.tm.merge (c := false) l1.1 l2.1 hk'.at_ hJ'.tm, ?_, ?_, hJ'.inj, hJ'.nloc, hJ'.old, hJ'.nx, hJ'.dfr⟩ hk'
          · have := hJ'.bx; rw [l2.2] at this; exact this
          · have := hJ'.dom; rw [l2.2] at this; exact this
        · refine wp_cond_true hx (pCode_sound c h1 (hJ.kbAt hx) fun a' hJ' hk => ?_)
          have hk' := hk.mono (W' := writtenC c ++ writtenC d) fun _ => mem_app_l
          refine hQ a' ⟨hJ.tm.merge (c := true) l1.1 l2.1 hk'.at_ hJ'.tm, ?_, ?_, hJ'.inj, hJ'.nloc, hJ'.old, hJ'.nx, hJ'.dfr⟩ hk'
          · have := hJ'.bx; rw [l1.2] at this; exact this
          · have := hJ'.dom; rw [l1.2] at this; exact this
      · cases h
    · cases h
  | .block _ _, st, st', _, _, _, _, _, h, _, _ => by simp [pCode] at h
  | .loop _, st, st', _, _, _, _, _, h, _, _ => by simp [pCode] at h
  | .rangeFunc _ _ _ _, st, st', _, _, _, _, _, h, _, _ => by simp [pCode] at h
  | .exit _, st, st', _, _, _, _, _, h, _, _ => by simp [pCode] at h
  | .scope _, st, st', _, _, _, _, _, h, _, _ => by simp [pCode] at h
  | .label _, st, st', _, _, _, _, _, h, _, _ => by simp [pCode] at h
  | .goto _, st, st', _, _, _, _, _, h, _, _ => by simp [pCode] at h
  | .ret, st, st', _, _, _, _, _, h, _, _ => by simp [pCode] at h
  | .refuse _, st, st', _, _, _, _, _, h, _, _ => by simp [pCode] at h

theorem carried_get {zs : List Value} {st : St} {ts : List Tmp} {bs : List Nat} {n : Nat} {R : List Value → Prop} (h : carried zs st ts bs n R) : ∃ l, genVals st ts bs = some l ∧ fitVs zs l = true ∧ R l := by
  unfold carried at h
  split at h
  · rename_i l hl
    split at h
    · rename_i hc; exact ⟨l, hl, hc.1, h⟩
    · cases h
  · cases h
/-- What a piece of code hands on, at each of its ends. -/
def HandsC (H0 : PHeap) (w0 : World) (β : Nat → Option Nat) (bx : List Box) (W : List Tmp) (a : Act) (K : St → PHeap → Prop) (F : Act → World → Prop) : Prop :=
  ∀ β' st' H' a' w', K st' H' → J H0 w0 β' st' H' a' w' → Ext β bx β' st'.bx → Kp W a a' → F a' w'

theorem Ext.of_like {β : Nat → Option Nat} {st : St} {bs : List Nat} {bx' : List Box} (hl : BxLike st bs bx') (hz : ∀ (i : Nat) (c d : Box), st.bx[i]? = some c → bx'[i]? = some d → d.fz = c.fz) (hf : ∀ i c, i ∈ bs → st.bx[i]? = some c → c.fz = false) : Ext β st.bx β bx' := by
  refine ⟨fun _ _ h => h, fun i c hc => ?_⟩
  obtain ⟨d, hd, e1, e2, e3⟩ := hl i c hc
  exact ⟨d, hd, e1, hz i c d hc hd, e2, fun h => e3 fun hm => by rw [hf i c hm hc] at h; cases h⟩
theorem genVals_fz {st : St} {ts : List Tmp} {bs : List Nat} {l : List Value} (h : genVals st ts bs = some l) : ∀ i c, i ∈ bs → st.bx[i]? = some c → c.fz = false := by
  obtain ⟨la, lb, _, _, hb⟩ := genVals_split h
  exact boxVals_fz bs hb
theorem vCode_sound : ∀ (c : Code) {st : St} {H : PHeap} {Kn : St → PHeap → Prop} {Kx : Nat → St → PHeap → Prop} {Kr : St → PHeap → Prop} {Q : Exit → Act → World → Prop} {β : Nat → Option Nat} {a : Act} {w : World},
    vCode cx P c st H Kn Kx Kr → J H0 w0 β st H a w → (∀ ch a w, ¬ Q (.panic ch) a w) →
    HandsC H0 w0 β st.bx (writtenC c) a Kn (Q .normal) → (∀ j, HandsC H0 w0 β st.bx (writtenC c) a (Kx j) (Q (.exit j))) → HandsC H0 w0 β st.bx (writtenC c) a Kr (Q .ret) → c.wp P Q a w
  | .skip, st, H, Kn, Kx, Kr, Q, β, a, w, h, hJ, hp, hn, hx, hr => wp_skip (hn β st H a w h hJ (Ext.refl _ _) (Kp.refl _ _))
  | .label _, st, H, Kn, Kx, Kr, Q, β, a, w, h, hJ, hp, hn, hx, hr => wp_label (hn β st H a w h hJ (Ext.refl _ _) (Kp.refl _ _))
  | .exit id, st, H, Kn, Kx, Kr, Q, β, a, w, h, hJ, hp, hn, hx, hr => wp_exit (hx id β st H a w h hJ (Ext.refl _ _) (Kp.refl _ _))
  | .ret, st, H, Kn, Kx, Kr, Q, β, a, w, h, hJ, hp, hn, hx, hr => wp_ret (hr β st H a w h hJ (Ext.refl _ _) (Kp.refl _ _))
  | .region _ ops false, st, H, Kn, Kx, Kr, Q, β, a, w, h, hJ, hp, hn, hx, hr => by
    simp only [vCode] at h
    refine wp_region (vOps_sound (dm := none) (β0 := β) textRuns ⟨fun _ => trivial, fun _ => trivial⟩ (List.range ops.size) () h hJ trivial trivial fun β' st' H' a' w' hk hJ' he hkp => ?_)
    exact hn β' st' H' a' w' hk hJ' he (hkp.mono fun t ht => writtenAt_range ops _ t ht)
  | .region _ ops true, st, H, Kn, Kx, Kr, Q, β, a, w, h, hJ, hp, hn, hx, hr => by
    simp only [vCode] at h
    split at h
    · rename_i hd
      simp only [Bool.and_eq_true] at hd
      obtain ⟨Hs, hsub, hv⟩ := h
      have hJd := hJ.drew
      have hS : (fun w => Sees Hs w ∧ BxOk β st.bx w) { w with drawn := w.drawn + 1 } := ⟨fun k o hk => hJd.sees k o (hsub.le k o hk), hJd.bx⟩
      have hlen : (canon P ops ops.size (Array.replicate ops.size false)).length = ops.size := by
        have : ∀ (f : Nat) (x : Array Bool) (l : List Nat), drawOk P ops f x l = true → l.length = f := by
          intro f
          induction f with
          | zero => intro x l h; cases l with | nil => rfl | cons i is => simp [drawOk] at h
          | succ f ih => intro x l h; cases l with
            | nil => simp [drawOk] at h
            | cons i is => simp only [drawOk, Bool.and_eq_true] at h; simp [ih _ _ h.2]
        exact this _ _ _ hd.2
      refine wp_region_held (S := fun w => Sees Hs w ∧ BxOk β st.bx w) hd.1.1 ?_
      have := vOps_sound (dm := some ⟨Hs, st.bx⟩) (β0 := β) (S0 := fun w => Sees Hs w ∧ BxOk β st.bx w) (drawRuns (Q := Q) hd.1.2 hp) ⟨fun _ => Iff.rfl, fun _ h => h⟩ _ (Array.replicate ops.size false) hv hJd hS ⟨fun _ _ h => h, fun _ _ h => h⟩
        (fun β' st' H' a' w' hk hJ' he hkp => hn β' st' H' a' w' hk hJ' he (hkp.mono fun t ht => writtenAt_range ops _ t ht)) hS
      rw [hlen] at this
      exact this hd.2
    · cases h
  | .seq c d, st, H, Kn, Kx, Kr, Q, β, a, w, h, hJ, hp, hn, hx, hr => by
    simp only [vCode] at h
    refine wp_seq (vCode_sound c h hJ (fun ch a w => hp ch a w) ?_ (fun j β' st' H' a' w' hk hJ' he hkp => hx j β' st' H' a' w' hk hJ' he (hkp.mono fun _ => mem_app_l)) (fun β' st' H' a' w' hk hJ' he hkp => hr β' st' H' a' w' hk hJ' he (hkp.mono fun _ => mem_app_l)))
    intro β' st' H' a' w' hk hJ' he hkp
    have t1 := hkp.mono (W' := writtenC c ++ writtenC d) fun _ => mem_app_l
    refine vCode_sound d hk hJ' hp ?_ ?_ ?_
    · exact fun β'' st'' H'' a'' w'' hk' hJ'' he' hkp' => hn β'' st'' H'' a'' w'' hk' hJ'' (he.trans he') (t1.trans (hkp'.mono fun _ => mem_app_r))
    · exact fun j β'' st'' H'' a'' w'' hk' hJ'' he' hkp' => hx j β'' st'' H'' a'' w'' hk' hJ'' (he.trans he') (t1.trans (hkp'.mono fun _ => mem_app_r))
    · exact fun β'' st'' H'' a'' w'' hk' hJ'' he' hkp' => hr β'' st'' H'' a'' w'' hk' hJ'' (he.trans he') (t1.trans (hkp'.mono fun _ => mem_app_r))
  | .cond x c d, st, H, Kn, Kx, Kr, Q, β, a, w, h, hJ, hp, hn, hx, hr => by
    simp only [vCode] at h
    have hev := hJ.tm.ev x
    have hN : ∀ {st1 : St} {a1 : Act} {W : List Tmp} {K : St → PHeap → Prop} {F : Act → World → Prop}, a1 = a → st1.bx = st.bx → (∀ t, t ∈ W → t ∈ writtenC c ++ writtenC d) → HandsC H0 w0 β st.bx (writtenC c ++ writtenC d) a K F → HandsC H0 w0 β st1.bx W a1 K F := by
      intro st1 a1 W K F e1 e2 hW hh β' st' H' a' w' hk hJ' he hkp
      subst e1
      exact hh β' st' H' a' w' hk hJ' (by rw [← e2]; exact he) (hkp.mono hW)
    split at h
    · rename_i he
      rw [he] at hev
      exact wp_cond_true hev (vCode_sound c h hJ hp (hN rfl rfl (fun _ => mem_app_l) hn) (fun j => hN rfl rfl (fun _ => mem_app_l) (hx j)) (hN rfl rfl (fun _ => mem_app_l) hr))
    · rename_i he
      rw [he] at hev
      exact wp_cond_false hev (vCode_sound d h hJ hp (hN rfl rfl (fun _ => mem_app_r) hn) (fun j => hN rfl rfl (fun _ => mem_app_r) (hx j)) (hN rfl rfl (fun _ => mem_app_r) hr))
    · rename_i t he
      rw [he] at hev
      split at h
      · rename_i s1 s2 h1 h2
        have hpc : pCode P (.cond x c d) st = some { st with tm := mergeTm t (writtenC c ++ writtenC d) 0 st.tm s1.tm s2.tm } := by
          simp only [pCode, he, h1, h2]
        exact pCode_sound (.cond x c d) hpc hJ fun a' hJ' hk => hn β _ H a' w h hJ' (Ext.refl _ _) hk
      · cases t
        · exact wp_cond_false hev (vCode_sound d (h.2 rfl) (hJ.kbAt hev) hp (hN rfl (kbAt_bx _ _) (fun _ => mem_app_r) hn) (fun j => hN rfl (kbAt_bx _ _) (fun _ => mem_app_r) (hx j)) (hN rfl (kbAt_bx _ _) (fun _ => mem_app_r) hr))
        · exact wp_cond_true hev (vCode_sound c (h.1 rfl) (hJ.kbAt hev) hp (hN rfl (kbAt_bx _ _) (fun _ => mem_app_l) hn) (fun j => hN rfl (kbAt_bx _ _) (fun _ => mem_app_l) (hx j)) (hN rfl (kbAt_bx _ _) (fun _ => mem_app_l) hr))
    · cases h
  | .block id body, st, H, Kn, Kx, Kr, Q, β, a, w, h, hJ, hp, hn, hx, hr => by
    simp only [vCode] at h
    split at h
    · refine wp_block (vCode_sound body h hJ (fun ch a w => hp ch a w) hn ?_ hr)
      intro j β' st' H' a' w' hk hJ' he hkp
      show Exit.inBlock id Q (.exit j) a' w'
      simp only [Exit.inBlock]
      by_cases e : j = id
      · rw [if_pos e] at hk ⊢; exact hn β' st' H' a' w' hk hJ' he hkp
      · rw [if_neg e] at hk ⊢; exact hx j β' st' H' a' w' hk hJ' he hkp
    · rename_i ts bts hf
      split at h
      · cases h
      rename_i bs hbs
      split at h
      · rename_i zs zb hz hb
        obtain ⟨R, hR, hv⟩ := h
        have meet : HandsC H0 w0 β (frozenSt bs st).bx (writtenC body) a (fun st' H' => carried (zs ++ zb) st' (ts.map (·.1)) bs st.bx.length fun l => R l H') (Q .normal) := by
          intro β' st' H' a' w' hk hJ' he hkp
          obtain ⟨l, hl, hfit, hRl⟩ := carried_get hk
          have hlike := (BxLike.refl st bs).ext (s1 := st) he
          obtain ⟨hJm, hrest⟩ := meet_J (W := writtenC body) (fvs := ts.map fun t => opaqueT P t.2) hJ hJ' he.beta hlike hkp hl
          obtain ⟨hlike', hlen, hfz⟩ := hrest
          exact hn β _ H' a' w' (allVs_get hR hfit H' hRl) hJm (Ext.of_like hlike' hfz (boxVals_fz bs hb)) hkp
        refine wp_block (vCode_sound body hv (hJ.frozen bs) (fun ch a w => hp ch a w) meet ?_ ?_)
        · intro j β' st' H' a' w' hk hJ' he hkp
          show Exit.inBlock id Q (.exit j) a' w'
          simp only [Exit.inBlock]
          by_cases e : j = id
          · rw [if_pos e] at hk ⊢; exact meet β' st' H' a' w' hk hJ' he hkp
          · rw [if_neg e] at hk ⊢
            exact hx j β' _ H' a' w' hk (hJ'.unfrozen st.bx) (Ext.unfrozen he.beta ((BxLike.refl st bs).ext (s1 := st) he) (boxVals_fz bs hb)) hkp
        · intro β' st' H' a' w' hk hJ' he hkp
          exact hr β' _ H' a' w' hk (hJ'.unfrozen st.bx) (Ext.unfrozen he.beta ((BxLike.refl st bs).ext (s1 := st) he) (boxVals_fz bs hb)) hkp
      · cases h
  | .loop body, st, H, Kn, Kx, Kr, Q, β, a, w, h, hJ, hp, hn, hx, hr => by
    simp only [vCode] at h
    split at h
    · cases h
    · rename_i ts bts hf
      split at h
      · cases h
      rename_i bs hbs
      split at h
      · cases h
      · rename_i zs hzs
        obtain ⟨R, μ, hR0, hall⟩ := h
        have hfz0 := genVals_fz hzs
        obtain ⟨m1, m2, m3, m4⟩ := meet_J (W := writtenC body) (fvs := ts.map fun t => isFv (st.get t)) hJ hJ (fun _ _ h => h) (BxLike.refl st bs) (Kp.refl _ a) hzs
        refine wp_loop_ghost (fun n a1 w1 => ∃ l H1, fitVs zs l = true ∧ R l H1 ∧ μ l H1 = n ∧ J H0 w0 β (meetSt st (writtenC body) (ts.map fun t => isFv (st.get t)) ts bs l) H1 a1 w1 ∧ Kp (writtenC body) a a1 ∧
          BxLike st bs (meetSt st (writtenC body) (ts.map fun t => isFv (st.get t)) ts bs l).bx) (μ zs H) ⟨zs, H, fitVs_self zs, hR0, rfl, m1, Kp.refl _ _, m2⟩ ?_
        rintro n a1 w1 ⟨l, H1, hfit, hRl, rfl, hJ1, hk1, hlike⟩
        refine vCode_sound body (allVs_get hall hfit H1 hRl) (hJ1.frozen bs) (fun ch a w => hp ch a w) ?_ ?_ ?_
        · intro β' st' H' a' w' hk hJ' he hkp
          obtain ⟨l', hl', hfit', hR', hμ⟩ := carried_get hk
          obtain ⟨q1, q2, _, _⟩ := meet_J (W := writtenC body) (fvs := ts.map fun t => isFv (st.get t)) hJ hJ' he.beta (hlike.ext he) (hk1.trans hkp) hl'
          exact ⟨μ l' H', hμ.out, l', H', hfit', hR', rfl, q1, hk1.trans hkp, q2⟩
        · intro j β' st' H' a' w' hk hJ' he hkp
          exact hx j β' _ H' a' w' hk (hJ'.unfrozen st.bx) (Ext.unfrozen he.beta (hlike.ext he) hfz0) (hk1.trans hkp)
        · intro β' st' H' a' w' hk hJ' he hkp
          exact hr β' _ H' a' w' hk (hJ'.unfrozen st.bx) (Ext.unfrozen he.beta (hlike.ext he) hfz0) (hk1.trans hkp)
  | .rangeFunc _ _ _ _, _, _, _, _, _, _, _, _, _, h, _, _, _, _, _ => by simp [vCode] at h
  | .scope _, _, _, _, _, _, _, _, _, _, h, _, _, _, _, _ => by simp [vCode] at h
  | .goto _, _, _, _, _, _, _, _, _, _, h, _, _, _, _, _ => by simp [vCode] at h
  | .refuse _, _, _, _, _, _, _, _, _, _, h, _, _, _, _, _ => by simp [vCode] at h

/-! ### A call -/
theorem entrySVs_conc (β : Nat → Option Nat) : ∀ (ts : List TypeId) (vs : List Value) (t : Nat) (sv : SV), (entrySVs P ts vs)[t]? = some sv → ∃ v, vs[t]? = some v ∧ sv.conc β v
  | [], vs, t, sv, h => by
    have h' : (vs.map SV.v)[t]? = some sv := by cases vs <;> exact h
    rw [List.getElem?_map] at h'
    cases hv : vs[t]? with
    | none => rw [hv] at h'; cases h'
    | some v => rw [hv] at h'; simp at h'; subst h'; exact ⟨v, rfl, rfl⟩
  | _ :: _, [], t, sv, h => by cases h
  | ty :: ts, v :: vs, 0, sv, h => by
    simp only [entrySVs, List.getElem?_cons_zero, Option.some.injEq] at h
    subst h
    exact ⟨v, rfl, by split <;> rfl⟩
  | ty :: ts, v :: vs, t + 1, sv, h => by
    simp only [entrySVs, List.getElem?_cons_succ] at h
    obtain ⟨u, hu, hc⟩ := entrySVs_conc β ts vs t sv h
    exact ⟨u, by rw [List.getElem?_cons_succ]; exact hu, hc⟩
theorem entrySVs_len : ∀ (ts : List TypeId) (vs : List Value), (entrySVs P ts vs).length = vs.length
  | [], vs => by cases vs <;> simp [entrySVs]
  | _ :: _, [] => by simp [entrySVs]
  | _ :: ts, v :: vs => by simp [entrySVs, entrySVs_len ts vs]
def resOne (tmps : Array Value) : ResultVar → Sem Value
  | .tmp t => pure (tmps.getD t undef)
  | .cell ad t => do loadVar t (← asAddr (tmps.getD ad undef))
theorem results_eq (fn : Func) (tmps : Array Value) : results fn tmps = (do let vs ← fn.results.mapM (resOne tmps); pure (if h : vs.size = 1 then vs[0] else .tuple vs)) := by
  unfold results
  congr 1
theorem resVals_run {β : Nat → Option Nat} {st : St} {H : PHeap} {a : Act} {w : World} (hJ : J H0 w0 β st H a w) : ∀ (rs : List ResultVar) {l : List Value}, resVals P st rs = some l →
    (rs.mapM (resOne a.tmps)).run P w = .ok l w
  | [], l, h => by simp [resVals] at h; subst h; simp
  | .tmp t :: rs, l, h => by
    simp only [resVals] at h
    split at h
    · rename_i v vs hv hvs
      obtain rfl := Option.some.inj h
      have := val_conc hv (hJ.tm.get t)
      simp only [List.mapM_cons, Sem.run_bind, Sem.run_pure, Result.andThen_ok, resOne, this, resVals_run hJ rs hvs]
    · cases h
  | .cell ad t :: rs, l, h => by
    simp only [resVals] at h
    split at h
    · rename_i b off he
      split at h
      · rename_i c cs hd
        split at h
        · rename_i v vs hv hvs
          obtain rfl := Option.some.inj h
          have hg := hJ.tm.get ad
          rw [he] at hg
          obtain ⟨g, hg, hx⟩ := hg
          obtain ⟨g', hg', hh⟩ := hJ.bx b c (drop_cons hd)
          rw [hg] at hg'
          obtain rfl := Option.some.inj hg'
          have hl := run_loadVar_cells (P := P) (w := w) hh hv
          have ha : (asAddr (a.tmps.getD ad undef)).run P w = .ok ⟨g, off, none⟩ w := by rw [hx]; rfl
          simp only [List.mapM_cons, Sem.run_bind, Sem.run_pure, Result.andThen_ok, resOne, ha, hl, resVals_run hJ rs hvs]
        · cases h
      · cases h
    · cases h
theorem vRet_sound {fn : Func} {QQ : Value → PHeap → Prop} {β : Nat → Option Nat} {st : St} {H : PHeap} {a : Act} {w : World} (hJ : J H0 w0 β st H a w) (h : vRet P fn QQ st H) :
    a.defers = [] ∧ ∃ v, (results fn a.tmps).run P w = .ok v w ∧ QQ v H := by
  unfold vRet at h
  split at h
  · rename_i l hl
    refine ⟨hJ.dfr, _, ?_, h⟩
    have hr := resVals_run hJ fn.results.toList hl
    have hr' : (fn.results.mapM (resOne a.tmps)).run P w = .ok l.toArray w := by
      rw [← Array.toArray_toList (xs := fn.results), List.mapM_toArray]
      simp only [Sem.run_map, hr, Result.andThen_ok]
    rw [results_eq]
    simp only [Sem.run_bind, hr', Result.andThen_ok, Sem.run_pure]
    congr 1
    rcases l with _ | ⟨v, _ | ⟨u, l⟩⟩ <;> simp [retVal]
  · cases h
theorem Triple.of_v {f : FuncId} {args : List Value} {H : PHeap} {QQ : Value → PHeap → Prop} (h : vFunc cx P f args H QQ) : Triple P f args.toArray H QQ := by
  constructor
  intro w hs
  unfold vFunc at h
  split at h
  · rename_i fn hf
    split at h
    · rename_i c hb
      have hJ : J H w (fun _ => none) { tm := entrySVs P fn.params.toList args ++ List.replicate (fn.ntmps - args.length) .unk, bx := [] } H { tmps := args.toArray ++ Array.replicate (fn.ntmps - args.toArray.size) undef, defers := [] } w := by
        refine ⟨⟨by simp [entrySVs_len], fun t sv hsv => ?_⟩, (fun i c hc => by simp at hc), (fun _ _ => rfl), (fun _ _ _ h => by cases h), (fun _ _ h => by cases h), (fun _ _ h => by cases h), Nx.refl hs, rfl⟩
        by_cases ht : t < args.length
        · rw [List.getElem?_append_left (by rw [entrySVs_len]; exact ht)] at hsv
          obtain ⟨v, hv, hc⟩ := entrySVs_conc (fun _ => none) _ _ t sv hsv
          have : (args.toArray ++ Array.replicate (fn.ntmps - args.toArray.size) undef).getD t undef = v := by
            rw [Array.getD_eq_getD_getElem?, Array.getElem?_append_left (by simpa using ht)]
            simp [hv]
          rw [this]; exact hc
        · rw [List.getElem?_append_right (by rw [entrySVs_len]; omega), List.getElem?_replicate] at hsv
          split at hsv
          · obtain rfl := Option.some.inj hsv; trivial
          · cases hsv
      refine calls_of_wp hf hb (vCode_sound c h hJ (fun ch a w hq => ?_) ?_ ?_ ?_)
      · obtain ⟨_, v, H', he, _⟩ := hq; cases he
      · intro β' st' H' a' w' hk hJ' _ _
        obtain ⟨h1, v, h2, h3⟩ := vRet_sound hJ' hk
        exact ⟨h1, v, h2, v, H', rfl, hJ'.nx, h3⟩
      · intro j β' st' H' a' w' hk _ _ _
        exact hk.elim
      · intro β' st' H' a' w' hk hJ' _ _
        obtain ⟨h1, v, h2, h3⟩ := vRet_sound hJ' hk
        exact ⟨h1, v, h2, v, H', rfl, hJ'.nx, h3⟩
    · cases h
  · cases h
theorem Triple.of_vc {f : FuncId} {args : List Value} {H : PHeap} {QQ : Value → PHeap → Prop} {X : Prop} (cx : Cx) (he : vFunc cx P f args H QQ = X) (h : X) : Triple P f args.toArray H QQ := Triple.of_v (cx := cx) (he ▸ h)
end
end Go.Vx
