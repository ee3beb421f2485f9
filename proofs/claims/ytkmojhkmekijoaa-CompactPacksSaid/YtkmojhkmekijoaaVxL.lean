/- The executor's lists of operations: what is to be shown is enough. -/
import Derived.Test.YtkmojhkmekijoaaVxK
namespace Go.Vx
section
variable {P : Program} {β : Nat → Option Nat} {st : St} {a : Act} {w : World} {bx : List Box} {H H' H0 : PHeap} {w0 : World}
  {Q : Exit → Act → World → Prop} {ops : Array Oper} {cx : Cx}

/-- Slots beside W are what they were. -/
structure Kp (W : List Tmp) (a a' : Act) : Prop where
  size : a'.tmps.size = a.tmps.size
  at_ : ∀ t, t ∉ W → a'.tmps.getD t undef = a.tmps.getD t undef
theorem Kp.refl (W : List Tmp) (a : Act) : Kp W a a := ⟨rfl, fun _ _ => rfl⟩
theorem Kp.trans {W : List Tmp} {a a' a'' : Act} (h : Kp W a a') (h' : Kp W a' a'') : Kp W a a'' := ⟨h'.size.trans h.size, fun t ht => (h'.at_ t ht).trans (h.at_ t ht)⟩
theorem Kp.mono {W W' : List Tmp} {a a' : Act} (h : Kp W a a') (hs : ∀ t, t ∈ W → t ∈ W') : Kp W' a a' := ⟨h.size, fun t ht => h.at_ t fun hm => ht (hs t hm)⟩
theorem put_size (d : Option Tmp) (y : Value) : (a.put d y).tmps.size = a.tmps.size := by cases d <;> simp [Act.put]
theorem Kp.step {i : Nat} {is : List Nat} {o : Oper} {a' : Act} {y : Value} (ho : ops[i]? = some o) (h : Kp (writtenAt ops is) (a.put o.dst y) a') : Kp (writtenAt ops (i :: is)) a a' := by
  refine ⟨by rw [h.size, put_size], fun t ht => ?_⟩
  have hd : dstOf ops i = o.dst := by simp [dstOf, ho]
  simp only [writtenAt] at ht
  rw [hd] at ht
  cases e : o.dst with
  | none =>
    rw [e] at ht
    simp only at ht
    rw [h.at_ t ht, put_other (by rw [e]; simp)]
  | some d =>
    rw [e] at ht
    simp only [List.mem_cons, not_or] at ht
    rw [h.at_ t ht.2, put_other (by rw [e]; simp; exact fun e => ht.1 e.symm)]
theorem writtenAt_range (ops : Array Oper) (l : List Nat) : ∀ t, t ∈ writtenAt ops l → t ∈ writtenOps ops := by
  induction l with
  | nil => intro t ht; simp [writtenAt] at ht
  | cons i is ih =>
    intro t ht
    simp only [writtenAt] at ht
    split at ht
    · rename_i d hd
      rcases List.mem_cons.1 ht with rfl | ht
      · simp only [dstOf_eq] at hd
        cases ho : ops[i]? with
        | none => rw [ho] at hd; cases hd
        | some o =>
          rw [ho] at hd
          simp only [writtenOps, List.mem_filterMap]
          exact ⟨o, by simpa using Array.mem_of_getElem? ho, hd⟩
      · exact ih t ht
    · exact ih t ht

/-- What the two modes ask. -/
def MdOk (β0 : Nat → Option Nat) (S0 : World → Prop) (Adm : (World → Prop) → Prop) : Option Dm → Prop
  | none => (∀ w, S0 w) ∧ ∀ S, Adm S
  | some d => (∀ w, S0 w ↔ Sees d.hs w ∧ BxOk β0 d.bx w) ∧ ∀ S, (∀ w, S0 w → S w) → Adm S
def MdIn (β0 β : Nat → Option Nat) (st : St) : Option Dm → Prop
  | none => True
  | some d => (∀ (i : Nat) (c : Box), d.bx[i]? = some c → st.bx[i]? = some c) ∧ ∀ i g, β0 i = some g → β i = some g
theorem BxOk.mono {β0 : Nat → Option Nat} (h : BxOk β0 bx w) (he : ∀ i g, β0 i = some g → β i = some g) : BxOk β bx w := fun i c hc => let ⟨g, hg, hh⟩ := h i c hc; ⟨g, he i g hg, hh⟩

theorem vOps_sound {r : Option Nat} {dm : Option Dm} {β0 : Nat → Option Nat} {ι : Type} {S0 : World → Prop} {Adm : (World → Prop) → Prop} {W : ι → List Nat → Act → World → Prop} (hR : Runs P r ops Q dm.isNone S0 Adm W) (hM : MdOk β0 S0 Adm dm) {K : St → PHeap → Prop} :
    ∀ (l : List Nat) {st : St} {H : PHeap} {β : Nat → Option Nat} {a : Act} {w : World} (x : ι), vOps cx P dm ops l st H K → J H0 w0 β st H a w → S0 w → MdIn β0 β st dm →
      (∀ β' st' H' a' w', K st' H' → J H0 w0 β' st' H' a' w' → Ext β st.bx β' st'.bx → Kp (writtenAt ops l) a a' → Q .normal a' w') → W x l a w
  | [], st, H, β, a, w, x, h, hJ, h0, hI, hK => hR.nil x a w (hK β st H a w h hJ (Ext.refl _ _) (Kp.refl _ _))
  | i :: is, st, H, β, a, w, x, h, hJ, h0, hI, hK => by
    have go : ∀ {st1 : St} {o : Oper}, ops[i]? = some o → J H0 w0 β st1 H a w → st1.bx = st.bx → Region.wanted o (yielded ops a.tmps) = true →
        vStep cx P dm st1 H o (fun sv st H => vOps cx P dm ops is (st.put o.dst sv) H K) → W x (i :: is) a w := by
      intro st1 o ho hJ1 hbx hwn hs
      have cont : ∀ (sv : SV) (st' : St) (H' : PHeap) (β' : Nat → Option Nat) (y : Value) (w' : World), vOps cx P dm ops is (st'.put o.dst sv) H' K → sv.conc β' y → J H0 w0 β' st' H' a w' → Ext β st.bx β' st'.bx → S0 w' → MdIn β0 β' st' dm → ∀ x', W x' is (a.put o.dst y) w' := by
        intro sv st' H' β' y w' hv hc hJ' hext h0' hI' x'
        refine vOps_sound hR hM is x' hv (hJ'.put o.dst hc) h0' ?_ fun β'' st'' H'' a'' w'' hk hJ'' hext' hkp => hK β'' st'' H'' a'' w'' hk hJ'' (hext.trans (by rw [put_bx] at hext'; exact hext')) (hkp.step ho)
        cases dm with
        | none => trivial
        | some d => exact ⟨fun j c hj => by rw [put_bx]; exact hI'.1 j c hj, hI'.2⟩
      unfold vStep at hs
      split at hs
      · -- the order of the text
        split at hs
        · rename_i hq
          obtain ⟨sv, y, hk, hc, hr⟩ := vQuiet_sound hJ1.tm hs
          exact hR.quiet x i is o a w y ho hq (fun w' => w' = w) (hM.2 _) rfl (.inl ⟨hwn, fun w' e => by subst e; exact hr w' hJ1.bx hJ1.sees⟩) fun x' => cont sv st1 H β y w hk hc hJ1 (by rw [hbx]; exact Ext.refl _ _) h0 trivial x'
        · rename_i hq
          refine hR.eff x i is o a w ho (by simpa using hq) hwn (vEff_sound hJ1 hs ?_)
          intro sv st' H' β' y w' hk hc hJ' hext htm _
          exact ⟨hM.1 w', fun x' => cont sv st' H' β' y w' hk hc hJ' (by rw [hbx] at hext; exact hext) (hM.1 w') trivial x'⟩
      · -- an order that is drawn
        rename_i d
        split at hs
        · rename_i hq
          obtain ⟨sv, y, hk, hc, hr⟩ := vQuiet_sound hJ1.tm hs
          exact hR.quiet x i is o a w y ho hq S0 (hM.2 _ fun _ h => h) h0 (.inl ⟨hwn, fun w' e => hr w' (((hM.1 w').1 e).2.mono hI.2) ((hM.1 w').1 e).1⟩) fun x' => cont sv st1 H β y w hk hc hJ1 (by rw [hbx]; exact Ext.refl _ _) h0 ⟨fun j c hj => by rw [hbx]; exact hI.1 j c hj, hI.2⟩ x'
        · rename_i hq
          refine hR.eff x i is o a w ho (by simpa using hq) hwn (vEff_sound hJ1 hs ?_)
          intro sv st' H' β' y w' hk hc hJ' hext htm hlc
          have hpre : ∀ (j : Nat) (c : Box), d.bx[j]? = some c → st'.bx[j]? = some c := fun j c hj => hlc rfl j c (by rw [hbx]; exact hI.1 j c hj)
          have hβ : ∀ j g, β0 j = some g → β' j = some g := fun j g hj => hext.beta j g (hI.2 j g hj)
          have hS : S0 w' := by
            refine (hM.1 w').2 ⟨fun k o hk' => hJ'.sees k o (hk.1.le k o hk'), fun j c hj => ?_⟩
            obtain ⟨g0, hg0, _⟩ := ((hM.1 w).1 h0).2 j c hj
            obtain ⟨g1, hg1, hh⟩ := hJ'.bx j c (hpre j c hj)
            rw [hβ j g0 hg0] at hg1
            obtain rfl := Option.some.inj hg1
            exact ⟨_, hg0, hh⟩
          exact ⟨hS, fun x' => cont sv st' H' β' y w' hk.2 hc hJ' (by rw [hbx] at hext; exact hext) hS ⟨hpre, hβ⟩ x'⟩
    have goSkip : ∀ {st1 : St} {o : Oper}, ops[i]? = some o → J H0 w0 β st1 H a w → st1.bx = st.bx → Region.wanted o (yielded ops a.tmps) = false →
        vOps cx P dm ops is (st1.put o.dst (.v undef)) H K → W x (i :: is) a w := by
      intro st1 o ho hJ1 hbx hwn hs
      refine hR.skip x i is o a w ho h0 hwn fun x' => ?_
      refine vOps_sound hR hM is x' hs (hJ1.put o.dst rfl) h0 ?_ fun β'' st'' H'' a'' w'' hk hJ'' hext' hkp => hK β'' st'' H'' a'' w'' hk hJ'' (by rw [put_bx, hbx] at hext'; exact hext') (hkp.step ho)
      cases dm with
      | none => trivial
      | some d => exact ⟨fun j c hj => by rw [put_bx, hbx]; exact hI.1 j c hj, hI.2⟩
    rw [vOps] at h
    split at h
    · cases h
    · rename_i o ho
      split at h
      · cases h
      · rename_i w0' hg
        exact go ho hJ rfl (wanted_none hg _) h
      · rename_i t want hg
        have hget := hJ.tm.get t
        split at h
        · rename_i b hb
          rw [hb] at hget
          have hwb := wanted_bool hg hget
          split at h
          · rename_i he
            exact go ho hJ rfl (by rw [hwb, he]) h
          · rename_i he
            exact goSkip ho hJ rfl (by rw [hwb, he]) h
        · rename_i b hb
          rw [hb] at hget
          have hwb := wanted_bool hg hget
          split at h
          · rename_i st' hp
            have key : ∀ S : World → Prop, Adm S → (∀ w', S w' → BxOk β (dmBx dm st) w') → S w → W x (i :: is) a w := fun S hA hS hw =>
              pOps_sound hR hA hS hw h0 (i :: is) x hp hJ.tm fun a' ha' => by
                have hb' := pOps_bx (i :: is) hp
                have hJ' : J H0 w0 β st' H a' w := ⟨ha'.tm, by rw [hb']; exact hJ.bx, by rw [hb']; exact hJ.dom, hJ.inj, hJ.nloc, hJ.old, hJ.nx, by rw [ha'.dfr]; exact hJ.dfr⟩
                refine hK β st' H a' w h hJ' (by rw [hb']; exact Ext.refl _ _) ⟨?_, ha'.keep⟩
                rw [ha'.tm.size, pOps_len _ hp, hJ.tm.size]
            cases dm with
            | none => exact key (fun w' => w' = w) (hM.2 _) (fun w' e => by subst e; exact hJ.bx) rfl
            | some d => exact key S0 (hM.2 _ fun _ h => h) (fun w' e => ((hM.1 w').1 e).2.mono hI.2) h0
          · by_cases he : b = want
            · subst he
              exact go ho (hJ.kbAt (x := .tmp t) hget) (kbAt_bx _ _) (by rw [hwb]; simp) (h.1 rfl)
            · have hb' : b = !want := by cases b <;> cases want <;> simp_all
              have hget' : a.eval (.tmp t) = .bool (!want) := by rw [← hb']; exact hget
              exact goSkip ho (hJ.kbAt (x := .tmp t) hget') (kbAt_bx _ _) (by rw [hwb, hb']; cases want <;> rfl) (h.2 hb')
        · rename_i vs hb
          rw [hb] at hget
          exact goSkip ho hJ rfl (wanted_tuple hg hget) h
        · cases h

theorem quiet_sem {o : Oper} (h : quietOp P o = true) (r : Option Nat) (ρ : Operand → Value) : Oper.semAt r ρ o = execOp ρ o := by
  refine Oper.semAt_eq r ρ o fun c hc => ?_
  simp [quietOp, hc] at h
theorem wpOpsIn_cons' {F : Fence} {n : Nat} {i : Nat} {is : List Nat} {o : Oper} (ho : ops[i]? = some o) : wpOpsIn F n P ops Q (i :: is) a w =
    (if Region.wanted o (yielded ops a.tmps) then o.wpIn F n P a w (wpOpsIn F n P ops Q is) Q else (∀ f, o.about P w a.eval = some f → F.fn f) ∧ wpOpsIn F n P ops Q is (a.put o.dst undef) w) := by
  rw [wpOpsIn]; simp only [ho]
theorem textRuns {r : Option Nat} : Runs P r ops Q true (fun _ => True) (fun _ => True) (fun (_ : Unit) l a w => wpOpsIn (RF r) 0 P ops Q l a w) where
  nil _ a w h := h
  quiet x i is o a w y ho hq S hA hS hy h := by
    rw [wpOpsIn_cons' ho]
    rcases hy with ⟨hw, hv⟩ | ⟨hw, rfl⟩
    · rw [if_pos hw]
      refine ⟨fun _ _ => trivial, ?_⟩
      rw [quiet_sem hq, hv w hS]
      exact h x
    · rw [if_neg (by simp [hw])]
      exact ⟨fun _ _ => trivial, h x⟩
  skip x i is o a w ho _ hw h := by
    rw [wpOpsIn_cons' ho, if_neg (by simp [hw])]
    exact ⟨fun _ _ => trivial, h x⟩
  eff x i is o a w ho hq hw h := by
    rw [wpOpsIn_cons' ho, if_pos hw]
    exact Oper.wpIn_mono (fun a' w' h' => h'.2 x) h.inn
theorem drawRuns {S0 : World → Prop} (hs : Region.noSelect ops = true) (hQ : ∀ c a w, ¬ Q (.panic c) a w) :
    Runs P none ops Q false S0 (fun S => ∀ w, S0 w → S w) (fun (x : Array Bool) l a w => S0 w → drawOk P ops l.length x l = true → wpAnyH P .any ops Q S0 l.length x a w) where
  nil x a w h _ hd := ⟨by simpa [drawOk] using hd, h⟩
  quiet x i is o a w y ho hq S hA hS hy h h0 hd := by
    simp only [List.length_cons, drawOk, ho, hq, if_true, Bool.and_eq_true] at hd
    refine wpAnyH_take ho hs hd.1.1 hd.1.2 (fun c a w h => absurd h (hQ _ _ _)) ?_ h0 (h _ h0 hd.2)
    exact hy.imp (fun ⟨h1, h2⟩ => ⟨h1, fun w' hw' => h2 w' (hA w' hw')⟩) id
  skip x i is o a w ho h0 hw h _ hd := by
    simp only [List.length_cons, drawOk, ho, Bool.and_eq_true] at hd
    by_cases hq : quietOp P o = true
    · simp only [hq, if_true, Bool.and_eq_true] at hd
      exact wpAnyH_take ho hs hd.1.1 hd.1.2 (fun c a w h => absurd h (hQ _ _ _)) (.inr ⟨hw, rfl⟩) h0 (h _ h0 hd.2)
    · simp only [hq, Bool.false_eq_true, if_false] at hd
      refine wpAnyH_all (rs := [i]) (by simpa using hd.1) (by simp) fun j hj => ?_
      simp only [List.mem_singleton] at hj
      subst hj
      unfold wpOp
      simp only [ho, hw]
      exact ⟨h0, h _ h0 hd.2⟩
  eff x i is o a w ho hq hw h h0 hd := by
    simp only [List.length_cons, drawOk, ho, hq, Bool.and_eq_true, Bool.false_eq_true, if_false] at hd
    refine wpAnyH_all (rs := [i]) (by simpa using hd.1) (by simp) fun j hj => ?_
    simp only [List.mem_singleton] at hj
    subst hj
    unfold wpOp
    simp only [ho, hw, if_true]
    exact .inl (Oper.wp_mono (fun a' w' h' => ⟨h'.1, h'.2 _ h'.1 hd.2⟩) (h.plain rfl))
end
end Go.Vx
