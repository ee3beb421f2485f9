/- The executor's lists of operations: what is to be shown is enough. -/
import Derived.Test.YtllbdocjgdnofaaVxK
namespace Go.Vx
section
variable {P : Program} {β : Nat → Option Nat} {st : St} {a : Act} {w : World} {bx : List Box} {H H' H0 : PHeap} {w0 : World} {pd : List (Nat × Obj)}
  {Q : Exit → Act → World → Prop} {ops : Array Oper} {cx : Cx}

/-- Slots beside W are what they were. -/
structure Kp (W : List Tmp) (a a' : Act) : Prop where
  size : a'.tmps.size = a.tmps.size
  at_ : ∀ t, t ∉ W → a'.tmps.getD t undef = a.tmps.getD t undef
theorem Kp.refl (W : List Tmp) (a : Act) : Kp W a a := ⟨rfl, fun _ _ => rfl⟩
theorem Kp.trans {W : List Tmp} {a a' a'' : Act} (h : Kp W a a') (h' : Kp W a' a'') : Kp W a a'' := ⟨h'.size.trans h.size, fun t ht => (h'.at_ t ht).trans (h.at_ t ht)⟩
theorem Kp.mono {W W' : List Tmp} {a a' : Act} (h : Kp W a a') (hs : ∀ t, t ∈ W → t ∈ W') : Kp W' a a' := ⟨h.size, fun t ht => h.at_ t fun hm => ht (hs t hm)⟩
theorem put_size (d : Option Tmp) (y : Value) : (a.put d y).tmps.size = a.tmps.size := by cases d <;> simp [Act.put]
theorem Kp.step {i : Nat} {is : List Nat} {o : Oper} {a' : Act} {y : Value} (ho : ops[i]? = some o) (h : Kp (writtenAt ops is) (a.put o.dst y) a') : Kp (writtenAt ops (i :: is)) a a' := by
  refine ⟨by rw [h.size, put_size], fun t ht => ?_⟩
  have hd : dstOf ops i = o.dst := by simp [dstOf, ho]
  simp only [writtenAt] at ht
  rw [hd] at ht
  cases e : o.dst with
  | none =>
    rw [e] at ht
    simp only at ht
    rw [h.at_ t ht, put_other (by rw [e]; simp)]
  | some d =>
    rw [e] at ht
    simp only [List.mem_cons, not_or] at ht
    rw [h.at_ t ht.2, put_other (by rw [e]; simp; exact fun e => ht.1 e.symm)]
theorem writtenAt_range (ops : Array Oper) (l : List Nat) : ∀ t, t ∈ writtenAt ops l → t ∈ writtenOps ops := by
  induction l with
  | nil => intro t ht; simp [writtenAt] at ht
  | cons i is ih =>
    intro t ht
    simp only [writtenAt] at ht
    split at ht
    · rename_i d hd
      rcases List.mem_cons.1 ht with rfl | ht
      · simp only [dstOf_eq] at hd
        cases ho : ops[i]? with
        | none => rw [ho] at hd; cases hd
        | some o =>
          rw [ho] at hd
          simp only [writtenOps, List.mem_filterMap]
          exact ⟨o, by simpa using Array.mem_of_getElem? ho, hd⟩
      · exact ih t ht
    · exact ih t ht

theorem BxOk.mono {β0 : Nat → Option Nat} (h : BxOk β0 bx w) (he : ∀ i g, β0 i = some g → β i = some g) : BxOk β bx w := fun i c hc => let ⟨g, hg, hh⟩ := h i c hc; ⟨g, he i g hg, hh⟩
/-- What an operation may do to the world where an order is drawn. -/
def DrawT (ops : Array Oper) (β0 : Nat → Option Nat) (bx0 : List Box) (Hs : PHeap) (j : Nat) (w w' : World) : Prop := w' = w ∨ (BxOk β0 bx0 w' ∧ (keepB ops j = true → Sees Hs w'))
/-- What the two modes ask. -/
structure Md (ops : Array Oper) (β0 : Nat → Option Nat) (bx0 : List Box) (Hs : PHeap) (lc : Bool) (T : Nat → World → World → Prop) (Adm : Nat → (World → Prop) → Prop) : Prop where
  text : lc = true → (∀ j w w', T j w w') ∧ ∀ i S, Adm i S
  draw : lc = false → (∀ j w w', DrawT ops β0 bx0 Hs j w w' → T j w w') ∧ ∀ i S, Stays ops (DrawT ops β0 bx0 Hs) i S → Adm i S
structure DmIn (P : Program) (ops : Array Oper) (β0 : Nat → Option Nat) (bx0 : List Box) (Hs : PHeap) (β : Nat → Option Nat) (st : St) (H : PHeap) (w : World) (l : List Nat) (d : Dm) : Prop where
  bx : d.bx = bx0
  box : ∀ (i : Nat) (c : Box), bx0[i]? = some c → st.bx[i]? = some c
  beta : ∀ i g, β0 i = some g → β i = some g
  ok : BxOk β0 bx0 w
  hs : (d.on = true ∧ d.hs = Hs ∧ Sub Hs H) ∨ (d.on = false ∧ (d.hs = fun _ => none) ∧ dropB P ops l = true)
def MdIn (P : Program) (ops : Array Oper) (β0 : Nat → Option Nat) (bx0 : List Box) (Hs : PHeap) (β : Nat → Option Nat) (st : St) (H : PHeap) (w : World) (l : List Nat) (lc : Bool) : Option Dm → Prop
  | none => lc = true
  | some d => lc = false ∧ DmIn P ops β0 bx0 Hs β st H w l d
theorem dropB_tail {i : Nat} {is : List Nat} (h : dropB P ops (i :: is) = true) : dropB P ops is = true := by
  unfold dropB at *
  rw [List.all_cons, Bool.and_eq_true] at h
  exact h.2
theorem dropB_head {i : Nat} {is : List Nat} {o : Oper} (ho : ops[i]? = some o) (hq : quietOp P o = false) (h : dropB P ops (i :: is) = true) : keepB ops i = false := by
  unfold dropB at h
  rw [List.all_cons, Bool.and_eq_true] at h
  have := h.1
  rw [ho] at this
  simpa [hq] using this
theorem stays_bx (β0 : Nat → Option Nat) (bx0 : List Box) (Hs : PHeap) (i : Nat) : Stays ops (DrawT ops β0 bx0 Hs) i (BxOk β0 bx0) := by
  intro listed j _ _ _ w w' hT hS
  rcases hT with rfl | h
  · exact hS
  · exact h.1
theorem stays_load (β0 : Nat → Option Nat) (bx0 : List Box) (Hs : PHeap) {i : Nat} {o : Oper} (ho : ops[i]? = some o) (hl : isLoad o = true) : Stays ops (DrawT ops β0 bx0 Hs) i (fun w => BxOk β0 bx0 w ∧ Sees Hs w) := by
  intro listed j hc hun hj w w' hT hS
  rcases hT with rfl | h
  · exact hS
  · exact ⟨h.1, h.2 (keepB_of hc ho hl hun hj)⟩

theorem vOps_sound {r : Option Nat} {β0 : Nat → Option Nat} {bx0 : List Box} {Hs : PHeap} {lc : Bool} {ι : Type} {T : Nat → World → World → Prop} {Adm : Nat → (World → Prop) → Prop} {W : ι → List Nat → Act → World → Prop} (hR : Runs P r ops Q lc T Adm W) (hM : Md ops β0 bx0 Hs lc T Adm) {K : St → PHeap → Prop} :
    ∀ (l : List Nat) {dm : Option Dm} {st : St} {H : PHeap} {β : Nat → Option Nat} {a : Act} {w : World} (x : ι), vOps cx P ops dm l st H K → J pd H0 w0 β st H a w → MdIn P ops β0 bx0 Hs β st H w l lc dm →
      (∀ β' st' H' a' w', K st' H' → J pd H0 w0 β' st' H' a' w' → Ext β st.bx β' st'.bx → Kp (writtenAt ops l) a a' → Q .normal a' w') → W x l a w
  | [], dm, st, H, β, a, w, x, h, hJ, hI, hK => hR.nil x a w (hK β st H a w (by rw [vOps] at h; exact h) hJ (Ext.refl _ _) (Kp.refl _ _))
  | i :: is, dm, st, H, β, a, w, x, h, hJ, hI, hK => by
    have go : ∀ {st1 : St} {o : Oper}, ops[i]? = some o → J pd H0 w0 β st1 H a w → st1.bx = st.bx → Region.wanted o (yielded ops a.tmps) = true →
        vStep cx P dm (dropB P ops (i :: is)) st1 H o (fun dm sv st H => vOps cx P ops dm is (st.put o.dst sv) H K) → W x (i :: is) a w := by
      intro st1 o ho hJ1 hbx hwn hs
      have cont : ∀ (dm' : Option Dm) (sv : SV) (st' : St) (H' : PHeap) (β' : Nat → Option Nat) (y : Value) (w' : World), vOps cx P ops dm' is (st'.put o.dst sv) H' K → sv.conc β' y → J pd H0 w0 β' st' H' a w' → Ext β st.bx β' st'.bx → MdIn P ops β0 bx0 Hs β' st' H' w' is lc dm' → ∀ x', W x' is (a.put o.dst y) w' := by
        intro dm' sv st' H' β' y w' hv hc hJ' hext hI' x'
        refine vOps_sound hR hM is x' hv (hJ'.put o.dst hc) ?_ fun β'' st'' H'' a'' w'' hk hJ'' hext' hkp => hK β'' st'' H'' a'' w'' hk hJ'' (hext.trans (by rw [put_bx] at hext'; exact hext')) (hkp.step ho)
        cases dm' with
        | none => exact hI'
        | some d => exact ⟨hI'.1, ⟨hI'.2.bx, fun j c hj => by rw [put_bx]; exact hI'.2.box j c hj, hI'.2.beta, hI'.2.ok, hI'.2.hs⟩⟩
      unfold vStep at hs
      split at hs
      · -- the order of the text
        have hlc : lc = true := hI
        subst hlc
        have hM' := hM.text rfl
        split at hs
        · rename_i hq
          obtain ⟨sv, y, hk, hc, hr, _⟩ := vQuiet_sound hJ1.tm hs
          exact hR.quiet x i is o a w y ho hq (fun w' => w' = w) (hM'.2 _ _) rfl (.inl ⟨hwn, fun w' e => by subst e; exact hr w' hJ1.bx hJ1.sees⟩) fun x' => cont none sv st1 H β y w hk hc hJ1 (by rw [hbx]; exact Ext.refl _ _) rfl x'
        · rename_i hq
          refine hR.eff x i is o a w ho (by simpa using hq) hwn (vEff_sound hJ1 hs ?_)
          intro sv st' H' β' y w' hk hc hJ' hext htm _
          exact ⟨hM'.1 _ _ _, fun x' => cont none sv st' H' β' y w' hk hc hJ' (by rw [hbx] at hext; exact hext) rfl x'⟩
      · -- an order that is drawn
        rename_i d
        obtain ⟨hlc, hD⟩ := hI
        subst hlc
        have hM' := hM.draw rfl
        have hD1 : DmIn P ops β0 bx0 Hs β st1 H w is d := ⟨hD.bx, fun j c hj => by rw [hbx]; exact hD.box j c hj, hD.beta, hD.ok, hD.hs.imp id fun h => ⟨h.1, h.2.1, dropB_tail h.2.2⟩⟩
        split at hs
        · rename_i hq
          obtain ⟨sv, y, hk, hc, hr, hr2⟩ := vQuiet_sound hJ1.tm hs
          have fin : ∀ x', W x' is (a.put o.dst y) w := fun x' => cont (some d) sv st1 H β y w hk hc hJ1 (by rw [hbx]; exact Ext.refl _ _) ⟨rfl, hD1⟩ x'
          rw [hD.bx] at hr hr2
          cases hld : isLoad o with
          | false => exact hR.quiet x i is o a w y ho hq _ (hM'.2 _ _ (stays_bx β0 bx0 Hs i)) hD.ok (.inl ⟨hwn, fun w' e => hr2 hld w' (BxOk.mono e hD.beta)⟩) fin
          | true =>
            rcases hD.hs with ⟨_, he, hsub⟩ | ⟨_, he, _⟩
            · rw [he] at hr
              exact hR.quiet x i is o a w y ho hq _ (hM'.2 _ _ (stays_load β0 bx0 Hs ho hld)) ⟨hD.ok, fun k o hk => hJ1.sees k o (hsub.le k o hk)⟩ (.inl ⟨hwn, fun w' e => hr w' (BxOk.mono e.1 hD.beta) e.2⟩) fin
            · rw [he] at hr
              exact hR.quiet x i is o a w y ho hq _ (hM'.2 _ _ (stays_bx β0 bx0 Hs i)) hD.ok (.inl ⟨hwn, fun w' e => hr w' (BxOk.mono e hD.beta) (fun k o hk => by cases hk)⟩) fin
        · rename_i hq
          have hq' : quietOp P o = false := by simpa using hq
          have after : ∀ (st' : St) (H' : PHeap) (β' : Nat → Option Nat) (w' : World), J pd H0 w0 β' st' H' a w' → Ext β st1.bx β' st'.bx → (∀ (j : Nat) (c : Box), st1.bx[j]? = some c → st'.bx[j]? = some c) →
              (∀ (j : Nat) (c : Box), bx0[j]? = some c → st'.bx[j]? = some c) ∧ (∀ j g, β0 j = some g → β' j = some g) ∧ BxOk β0 bx0 w' := by
            intro st' H' β' w' hJ' hext hlc
            have hpre : ∀ (j : Nat) (c : Box), bx0[j]? = some c → st'.bx[j]? = some c := fun j c hj => hlc j c (hD1.box j c hj)
            have hβ : ∀ j g, β0 j = some g → β' j = some g := fun j g hj => hext.beta j g (hD.beta j g hj)
            refine ⟨hpre, hβ, fun j c hj => ?_⟩
            obtain ⟨g0, hg0, _⟩ := hD.ok j c hj
            obtain ⟨g1, hg1, hh⟩ := hJ'.bx j c (hpre j c hj)
            rw [hβ j g0 hg0] at hg1
            obtain rfl := Option.some.inj hg1
            exact ⟨_, hg0, hh⟩
          split at hs
          · rename_i hon
            have hsub0 : d.hs = Hs := by
              rcases hD.hs with ⟨_, h, _⟩ | ⟨h, _⟩
              · exact h
              · rw [hon] at h; cases h
            split at hs
            · rename_i hdr
              refine hR.eff x i is o a w ho hq' hwn (vEff_sound hJ1 hs ?_)
              intro sv st' H' β' y w' hk hc hJ' hext htm hlc
              obtain ⟨p1, p2, p3⟩ := after st' H' β' w' hJ' hext (hlc rfl)
              refine ⟨hM'.1 _ _ _ (.inr ⟨p3, fun h => by rw [dropB_head ho hq' hdr] at h; cases h⟩), fun x' => cont _ sv st' H' β' y w' hk hc hJ' (by rw [hbx] at hext; exact hext) ⟨rfl, ⟨hD.bx, p1, p2, p3, .inr ⟨rfl, rfl, dropB_tail hdr⟩⟩⟩ x'⟩
            · refine hR.eff x i is o a w ho hq' hwn (vEff_sound hJ1 hs ?_)
              intro sv st' H' β' y w' hk hc hJ' hext htm hlc
              obtain ⟨p1, p2, p3⟩ := after st' H' β' w' hJ' hext (hlc rfl)
              rw [hsub0] at hk
              exact ⟨hM'.1 _ _ _ (.inr ⟨p3, fun _ k o hk' => hJ'.sees k o (hk.1.le k o hk')⟩), fun x' => cont _ sv st' H' β' y w' hk.2 hc hJ' (by rw [hbx] at hext; exact hext) ⟨rfl, ⟨hD.bx, p1, p2, p3, .inl ⟨hon, hsub0, hk.1⟩⟩⟩ x'⟩
          · rename_i hon
            have hdr : (d.hs = fun _ => none) ∧ dropB P ops (i :: is) = true := by
              rcases hD.hs with ⟨h, _⟩ | ⟨_, h⟩
              · rw [hon] at h; cases h
              · exact h
            refine hR.eff x i is o a w ho hq' hwn (vEff_sound hJ1 hs ?_)
            intro sv st' H' β' y w' hk hc hJ' hext htm hlc
            obtain ⟨p1, p2, p3⟩ := after st' H' β' w' hJ' hext (hlc rfl)
            exact ⟨hM'.1 _ _ _ (.inr ⟨p3, fun h => by rw [dropB_head ho hq' hdr.2] at h; cases h⟩), fun x' => cont _ sv st' H' β' y w' hk hc hJ' (by rw [hbx] at hext; exact hext) ⟨rfl, ⟨hD.bx, p1, p2, p3, .inr ⟨hon, hdr.1, dropB_tail hdr.2⟩⟩⟩ x'⟩
    have goSkip : ∀ {st1 : St} {o : Oper}, ops[i]? = some o → J pd H0 w0 β st1 H a w → st1.bx = st.bx → Region.wanted o (yielded ops a.tmps) = false →
        vOps cx P ops dm is (st1.put o.dst (.v undef)) H K → W x (i :: is) a w := by
      intro st1 o ho hJ1 hbx hwn hs
      refine hR.skip x i is o a w ho hwn fun x' => ?_
      refine vOps_sound hR hM is x' hs (hJ1.put o.dst rfl) ?_ fun β'' st'' H'' a'' w'' hk hJ'' hext' hkp => hK β'' st'' H'' a'' w'' hk hJ'' (by rw [put_bx, hbx] at hext'; exact hext') (hkp.step ho)
      cases dm with
      | none => exact hI
      | some d => exact ⟨hI.1, ⟨hI.2.bx, fun j c hj => by rw [put_bx, hbx]; exact hI.2.box j c hj, hI.2.beta, hI.2.ok, hI.2.hs.imp id fun h => ⟨h.1, h.2.1, dropB_tail h.2.2⟩⟩⟩
    rw [vOps] at h
    split at h
    · cases h
    · rename_i o ho
      split at h
      · cases h
      · rename_i w0' hg
        exact go ho hJ rfl (wanted_none hg _) h
      · rename_i t want hg
        have hget := hJ.tm.get t
        split at h
        · rename_i b hb
          rw [hb] at hget
          have hwb := wanted_bool hg hget
          split at h
          · rename_i he
            exact go ho hJ rfl (by rw [hwb, he]) h
          · rename_i he
            exact goSkip ho hJ rfl (by rw [hwb, he]) h
        · rename_i b hb
          rw [hb] at hget
          have hwb := wanted_bool hg hget
          split at h
          · rename_i st' hp
            have key : ∀ S : World → Prop, (∀ i, Adm i S) → (∀ w', S w' → BxOk β (dmBx dm st) w') → S w → W x (i :: is) a w := fun S hA hS hw =>
              pOps_sound hR hA hS hw (i :: is) x hp hJ.tm fun a' ha' => by
                have hb' := pOps_bx (i :: is) hp
                have hJ' : J pd H0 w0 β st' H a' w := ⟨ha'.tm, by rw [hb']; exact hJ.bx, by rw [hb']; exact hJ.dom, hJ.inj, hJ.nloc, hJ.old, hJ.nx, by rw [ha'.dfr]; exact hJ.dfr, hJ.pnd⟩
                refine hK β st' H a' w h hJ' (by rw [hb']; exact Ext.refl _ _) ⟨?_, ha'.keep⟩
                rw [ha'.tm.size, pOps_len _ hp, hJ.tm.size]
            cases dm with
            | none =>
              have hlc : lc = true := hI
              exact key (fun w' => w' = w) (fun i => (hM.text hlc).2 i _) (fun w' e => by subst e; exact hJ.bx) rfl
            | some d =>
              refine key (BxOk β0 bx0) (fun i => (hM.draw hI.1).2 i _ (stays_bx β0 bx0 Hs i)) (fun w' e => ?_) hI.2.ok
              show BxOk β d.bx w'
              rw [hI.2.bx]
              exact BxOk.mono e hI.2.beta
          · by_cases he : b = want
            · subst he
              exact go ho (hJ.kbAt (x := .tmp t) hget) (kbAt_bx _ _) (by rw [hwb]; simp) (h.1 rfl)
            · have hb' : b = !want := by cases b <;> cases want <;> simp_all
              have hget' : a.eval (.tmp t) = .bool (!want) := by rw [← hb']; exact hget
              exact goSkip ho (hJ.kbAt (x := .tmp t) hget') (kbAt_bx _ _) (by rw [hwb, hb']; cases want <;> rfl) (h.2 hb')
        · rename_i vs hb
          rw [hb] at hget
          exact goSkip ho hJ rfl (wanted_tuple hg hget) h
        · cases h

theorem quiet_sem {o : Oper} (h : quietOp P o = true) (r : Option Nat) (ρ : Operand → Value) : Oper.semAt r ρ o = execOp ρ o := by
  refine Oper.semAt_eq r ρ o fun c hc => ?_
  simp [quietOp, hc] at h
theorem wpOpsIn_cons' {F : Fence} {n : Nat} {i : Nat} {is : List Nat} {o : Oper} (ho : ops[i]? = some o) : wpOpsIn F n P ops Q (i :: is) a w =
    (if Region.wanted o (yielded ops a.tmps) then o.wpIn F n P a w (wpOpsIn F n P ops Q is) Q else (∀ f, o.about P w a.eval = some f → F.fn f) ∧ wpOpsIn F n P ops Q is (a.put o.dst undef) w) := by
  rw [wpOpsIn]; simp only [ho]
theorem textRuns {r : Option Nat} : Runs P r ops Q true (fun _ _ _ => True) (fun _ _ => True) (fun (_ : Unit) l a w => wpOpsIn (RF r) 0 P ops Q l a w) where
  nil _ a w h := h
  quiet x i is o a w y ho hq S hA hS hy h := by
    rw [wpOpsIn_cons' ho]
    rcases hy with ⟨hw, hv⟩ | ⟨hw, rfl⟩
    · rw [if_pos hw]
      refine ⟨fun _ _ => trivial, ?_⟩
      rw [quiet_sem hq, hv w hS]
      exact h x
    · rw [if_neg (by simp [hw])]
      exact ⟨fun _ _ => trivial, h x⟩
  skip x i is o a w ho hw h := by
    rw [wpOpsIn_cons' ho, if_neg (by simp [hw])]
    exact ⟨fun _ _ => trivial, h x⟩
  eff x i is o a w ho hq hw h := by
    rw [wpOpsIn_cons' ho, if_pos hw]
    exact Oper.wpIn_mono (fun a' w' h' => h'.2 x) h.inn
theorem drawRuns {T : Nat → World → World → Prop} (hs : Region.noSelect ops = true) (hQ : ∀ c a w, ¬ Q (.panic c) a w) (hT : ∀ i w, T i w w) :
    Runs P none ops Q false T (fun i S => Stays ops T i S) (fun (x : Array Bool) l a w => Closed ops x → drawOk P ops l.length x l = true → wpAnyL P ops Q T l.length x a w) where
  nil x a w h _ hd := ⟨by simpa [drawOk] using hd, h⟩
  quiet x i is o a w y ho hq S hA hS hy h hc hd := by
    simp only [List.length_cons, drawOk, ho, hq, if_true, Bool.and_eq_true] at hd
    have hr : i ∈ Region.ready .any ops x := by simpa using hd.1.2
    exact wpAnyL_first ho (Region.noSelect_spec hs) hQ hA (hT i) _ x a w hc (Region.free_spec ho hd.1.1) hr hy hS (h _ (closed_set hc hr) hd.2)
  skip x i is o a w ho hw h hc hd := by
    simp only [List.length_cons, drawOk, ho, Bool.and_eq_true] at hd
    have hr : i ∈ Region.ready .any ops x := by
      split at hd
      · have := hd.1; simp only [Bool.and_eq_true] at this; simpa using this.2
      · have := hd.1; simp at this; rw [this]; simp
    by_cases hq : quietOp P o = true
    · simp only [hq, if_true, Bool.and_eq_true] at hd
      exact wpAnyL_first (S := fun w' => w' = w' ) ho (Region.noSelect_spec hs) hQ (fun _ _ _ _ _ _ _ _ _ => rfl) (hT i) _ x a w hc (Region.free_spec ho hd.1.1) hr (.inr ⟨hw, rfl⟩) rfl (h _ (closed_set hc hr) hd.2)
    · simp only [hq, Bool.false_eq_true, if_false] at hd
      have hrs : Region.ready .any ops x = [i] := by simpa using hd.1
      refine ⟨fun h => (by rw [hrs] at h; cases h), fun j hj => ?_⟩
      rw [hrs] at hj
      simp only [List.mem_singleton] at hj
      subst hj
      unfold wpOp
      simp only [ho, hw]
      exact ⟨hT _ _, h _ (closed_set hc hr) hd.2⟩
  eff x i is o a w ho hq hw h hc hd := by
    simp only [List.length_cons, drawOk, ho, hq, Bool.and_eq_true, Bool.false_eq_true, if_false] at hd
    have hrs : Region.ready .any ops x = [i] := by simpa using hd.1
    refine ⟨fun h => (by rw [hrs] at h; cases h), fun j hj => ?_⟩
    rw [hrs] at hj
    simp only [List.mem_singleton] at hj
    subst hj
    unfold wpOp
    simp only [ho, hw, if_true]
    exact .inl (Oper.wp_mono (fun a' w' h' => ⟨h'.1, h'.2 _ (closed_set hc (by rw [hrs]; simp)) hd.2⟩) (h.plain rfl))
end
end Go.Vx
