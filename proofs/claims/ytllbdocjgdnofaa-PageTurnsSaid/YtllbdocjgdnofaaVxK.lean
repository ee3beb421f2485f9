/- The executor's steps of memory: each is met by the model's own step. -/
import Derived.Test.YtllbdocjgdnofaaVxJ
namespace Go.Vx
section
variable {P : Program} {β : Nat → Option Nat} {st : St} {a : Act} {w : World} {bx : List Box} {H H' H0 : PHeap} {w0 : World} {pd : List (Nat × Obj)}
  {next : Act → World → Prop} {Q : Exit → Act → World → Prop} {o : Oper}

/-- What a step of memory hands on. -/
def Hands (pd : List (Nat × Obj)) (H0 : PHeap) (w0 : World) (β : Nat → Option Nat) (st : St) (a : Act) (lc : Bool) (K : SV → St → PHeap → Prop) (F : Value → World → Prop) : Prop :=
  ∀ sv st' H' β' y w', K sv st' H' → sv.conc β' y → J pd H0 w0 β' st' H' a w' → Ext β st.bx β' st'.bx → st'.tm = st.tm → (lc = false → ∀ (i : Nat) (c : Box), st.bx[i]? = some c → st'.bx[i]? = some c) → F y w'

variable {r : Option Nat}
theorem semAt_of {n : Next} {w' : World} (h : (execOp a.eval o).run P w = .ok n w') (hn : ∀ d, n ≠ .defer d) : Oper.semAt r a.eval o = execOp a.eval o := by
  refine Oper.semAt_eq r a.eval o fun c hc => ?_
  simp only [execOp, hc, Sem.run_bind] at h
  cases hd : (resolve a.eval c o.type).run P w with
  | ok d w1 => rw [hd] at h; simp [Result.andThen] at h; exact hn _ h.1.symm
  | halt x w1 => rw [hd] at h; simp [Result.andThen] at h
theorem callsIn_rf {f : FuncId} {args : Array Value} {R : Ending → World → Prop} (n : Nat) (h : Calls P f args w R) : CallsIn (RF r) n P f args w R := callsIn_wide.2 h
theorem roundIn_rf {l : Nat} {f : FuncId} {tmps : Array Value} {assign body : Code} {R : Ending → World → Prop} (n : Nat) (h : RoundIn (RF none) 0 P l f tmps assign body w R) : RoundIn (RF r) n P l f tmps assign body w R := by
  refine ⟨trivial, fun c cs _ => h.2 c cs fun _ hd => ?_⟩
  cases hd
theorem opOk_of {lc : Bool} {n : Next} {w' : World} (h : (execOp a.eval o).run P w = .ok n w') (hn : ∀ d, n ≠ .defer d) (h1 : o.uponIn (RF r) 0 P a next Q (.ok n w')) (h2 : lc = false → o.upon P a next Q (.ok n w')) : OpOk P r lc o a w next Q :=
  ⟨⟨fun _ _ => trivial, by rw [show (RF r).round = r from rfl, semAt_of h hn, h]; exact h1⟩, fun e => by unfold Oper.wp; rw [h]; exact h2 e⟩
theorem wp_value {lc : Bool} {v : Value} {w' : World} (h : (execOp a.eval o).run P w = .ok (.value v) w') (hn : next (a.put o.dst v) w') : OpOk P r lc o a w next Q :=
  opOk_of h (fun _ e => by cases e) hn fun _ => hn
theorem wp_skip' {lc : Bool} {w' : World} (h : (execOp a.eval o).run P w = .ok .skip w') (hn : next (a.put o.dst undef) w') : OpOk P r lc o a w next Q :=
  opOk_of h (fun _ e => by cases e) hn fun _ => hn
theorem exR_get {t : TypeId} {K : Value → SV → Prop} (h : exR P t K) : ∃ v sv, sv.conc β v ∧ K v sv := by
  unfold exR at h
  split at h
  · split at h
    · obtain ⟨l, hl⟩ := exVs_get h; exact ⟨_, .v (.tuple l.toArray), (rfl : SV.conc β (.v (.tuple l.toArray)) _), hl⟩
    · cases h
  · split at h
    · obtain ⟨v, hv⟩ := exV_get h; exact ⟨_, _, svOf_conc _ _, hv⟩
    · cases h
  · cases h
theorem run_callFunc {g : FuncId} {xs : Array Value} (h : goodF P g = true) : (callFunc g xs).run P w = .ok (.enter g xs) w := by
  unfold goodF at h
  split at h
  · rename_i fn hf
    simp only [Bool.and_eq_true, Bool.not_eq_true', beq_eq_false_iff_ne] at h
    obtain ⟨hb, hn⟩ := h
    have hb' : fn.body.isNone = false := by cases e : fn.body <;> simp_all
    simp only [callFunc, Sem.run_bind, run_program, Result.andThen_ok, hf]
    rw [if_neg (by simpa using hn), if_neg (by simp [hb'])]
    rfl
  · cases h
theorem wp_calls {g : FuncId} {xs : Array Value} {lc : Bool} {K : SV → St → PHeap → Prop} {t : TypeId} (hJ : J pd H0 w0 β st H a w) (h : (execOp a.eval o).run P w = .ok (.enter g xs) w)
    (hc : Calls P g xs w fun e w' => ∃ v H', e = .returned v ∧ Nx H H' w w' ∧ exR P t fun x sv => v = x ∧ K sv st H') (hk : Hands pd H0 w0 β st a lc K fun y w' => next (a.put o.dst y) w') : OpOk P r lc o a w next Q := by
  have key : Calls P g xs w fun e w' => ∃ v, e = .returned v ∧ next (a.put o.dst v) w' := by
    refine hc.mono ?_
    rintro e w' ⟨v, H', rfl, hn, hx⟩
    obtain ⟨x, sv, hcc, rfl, hK⟩ := exR_get (β := β) hx
    exact ⟨v, rfl, hk sv st H' β v w' hK hcc (hJ.step hn) (Ext.refl _ _) rfl fun _ _ _ h => h⟩
  refine opOk_of h (fun _ e => by cases e) ?_ fun _ => ?_
  · rw [Oper.uponIn_enter]
    refine ⟨fun e => by simp [RF] at e, callsIn_rf _ (key.mono ?_)⟩
    rintro e w' ⟨v, rfl, hn⟩
    exact hn
  · rw [Oper.upon_enter]
    refine key.mono ?_
    rintro e w' ⟨v, rfl, hn⟩
    exact hn
theorem wp_rounds {l : Nat} {g : FuncId} {tmps : Array Value} {assign body : Code} {K : SV → St → PHeap → Prop} {t : TypeId} (hJ : J pd H0 w0 β st H a w) (h : (execOp a.eval o).run P w = .ok (.round l g tmps assign body) w)
    (hc : RoundIn (RF none) 0 P l g tmps assign body w fun e w' => ∃ v H', e = .returned v ∧ Nx H H' w w' ∧ exR P t fun x sv => v = x ∧ K sv st H') (hk : Hands pd H0 w0 β st a true K fun y w' => next (a.put o.dst y) w') : OpOk P r true o a w next Q := by
  refine opOk_of h (fun _ e => by cases e) ?_ fun e => by cases e
  rw [Oper.uponIn_round]
  refine ⟨fun e => by simp [RF] at e, roundIn_rf _ (hc.mono ?_)⟩
  rintro e w' ⟨v, H', rfl, hn, hx⟩
  obtain ⟨x, sv, hcc, rfl, hK⟩ := exR_get (β := β) hx
  exact hk sv st H' β v w' hK hcc (hJ.step hn) (Ext.refl _ _) rfl fun _ _ _ h => h
theorem wp_evV {s : Sem Value} {lc : Bool} {K : SV → St → PHeap → Prop} {KK : Value → PHeap → Prop} (hJ : J pd H0 w0 β st H a w) (he : execOp a.eval o = (do pure (.value (← s)))) (h : EvV P s H KK)
    (hKK : ∀ v H', KK v H' → ∃ sv, sv.conc β v ∧ K sv st H') (hk : Hands pd H0 w0 β st a lc K fun y w' => next (a.put o.dst y) w') : OpOk P r lc o a w next Q := by
  obtain ⟨v, w', H', hr, hn, hK⟩ := h.out w hJ.sees
  obtain ⟨sv, hc, hK'⟩ := hKK v H' hK
  exact wp_value (w' := w') (by rw [he]; simp [hr]) (hk sv st H' β v w' hK' hc (hJ.step hn) (Ext.refl _ _) rfl fun _ _ _ h => h)
theorem wp_evU {s : Sem Unit} {lc : Bool} {K : SV → St → PHeap → Prop} (hJ : J pd H0 w0 β st H a w) (he : execOp a.eval o = (do s; pure .skip)) (h : EvU P s H fun H' => K .unk st H')
    (hk : Hands pd H0 w0 β st a lc K fun y w' => next (a.put o.dst y) w') : OpOk P r lc o a w next Q := by
  obtain ⟨w', H', hr, hn, hK⟩ := h.out w hJ.sees
  exact wp_skip' (w' := w') (by rw [he]; simp [hr]) (hk .unk st H' β undef w' hK trivial (hJ.step hn) (Ext.refl _ _) rfl fun _ _ _ h => h)
theorem evR_get {t : TypeId} {K : SV → St → PHeap → Prop} {v : Value} (h : exR P t fun x sv => v = x ∧ K sv st H') : ∃ sv, sv.conc β v ∧ K sv st H' := by
  obtain ⟨x, sv, hc, rfl, hK⟩ := exR_get (β := β) h
  exact ⟨sv, hc, hK⟩
theorem vNew_sound {cx : Cx} {lc : Bool} {K : SV → St → PHeap → Prop} {t : TypeId} {cells : List Value} (hJ : J pd H0 w0 β st H a w) (h : vNew cx o.dst st H t cells K)
    (hr : (execOp a.eval o).run P w = .ok (.value (.pointer (some ⟨w.heap.size, 0, none⟩))) (w.alloc (.cells cells.toArray t (0, 0)))) (hk : Hands pd H0 w0 β st a lc K fun y w' => next (a.put o.dst y) w') : OpOk P r lc o a w next Q := by
  refine wp_value hr ?_
  have hnone : H w.heap.size = none := by
    cases hh : H w.heap.size with
    | none => rfl
    | some o => have := hJ.sees.lt (k := w.heap.size) (by rw [hh]; simp); omega
  unfold vNew at h
  split at h
  · exact hk _ st _ β _ _ (h _ hnone) rfl (hJ.step (Nx.alloc hJ.sees _)) (Ext.refl _ _) rfl fun _ _ _ h => h
  · obtain ⟨β', hext, hb, hJ'⟩ := hJ.alloc cells t
    refine hk (.loc st.bx.length 0) _ H β' _ _ h ⟨_, hb, rfl⟩ hJ' hext rfl fun _ i c hc => ?_
    have hi : i < st.bx.length := (List.getElem?_eq_some_iff.1 hc).1
    show (st.bx ++ _)[i]? = _
    rw [List.getElem?_append_left hi]; exact hc
theorem Writes.sound {oa : Option Addr} {l : List Value} (h : Writes H H' oa l) (hs : Sees H w) : ∃ g off c e lo hi, oa = some ⟨g, off, none⟩ ∧ w.heap[g]? = some (.cells c e (lo, hi)) ∧ (∀ j, j < l.length → ¬ (lo ≤ off + j ∧ off + j < hi)) ∧ off + l.length ≤ c.size ∧
    Nx H H' w (w.setRow g (over c.toList off l).toArray) := by
  obtain ⟨ad, c, e, lo, hi, rfl, hsp, hH, hl, hf, rfl⟩ := h.out
  obtain ⟨g, off, sp⟩ := ad
  simp only at hsp
  subst hsp
  refine ⟨g, off, c, e, lo, hi, rfl, hs _ _ hH, hf, hl, ?_⟩
  exact Nx.setRow hs hH
theorem cells_arr (v : Value) : (cellsL v).toArray = v.cells := by rw [← cells_toList]
theorem args_map {xs : Array Operand} {l : List Value} (h : st.vals xs.toList = some l) (ht : TmOk β st a) : xs.map a.eval = l.toArray := by
  have := ht.vals h
  apply Array.ext'
  simpa using this
theorem flatten_range (z : List Value) (n : Nat) (hz : z.length = n) : ∀ len : Nat, ((List.range (len * n)).map fun i => z.toArray[i % n]!) = (List.replicate len z).flatten
  | 0 => by simp
  | len + 1 => by
    rw [Nat.succ_mul, List.range_add, List.map_append, flatten_range z n hz len, List.replicate_succ', List.flatten_append]
    congr 1
    simp only [List.map_map, List.flatten_cons, List.flatten_nil, List.append_nil]
    apply List.ext_getElem?
    intro i
    by_cases hi : i < n
    · simp [hi, Nat.mul_add_mod_of_lt hi, ← hz]
      have hi' : i < z.length := by omega
      simp [hi', Nat.mod_eq_of_lt hi']
    · rw [List.getElem?_eq_none (by simp; omega), List.getElem?_eq_none (by omega)]
theorem vCall_sound {c : Call} {lc : Bool} {K : SV → St → PHeap → Prop} (ho : o.op = .call c) (hJ : J pd H0 w0 β st H a w) (h : vCall P lc st H o c K) (hk : Hands pd H0 w0 β st a lc K fun y w' => next (a.put o.dst y) w') : OpOk P r lc o a w next Q := by
  have hex : execOp a.eval o = (do let d ← resolve a.eval c o.type; invoke d.target d.args) := by simp [execOp, ho]
  unfold vCall at h
  split at h
  · rename_i f args hcal hargs
    have hm := args_map hargs hJ.tm
    split at h
    · rename_i g first captured he
      have hf := hJ.tm.v he
      split at h
      · rename_i hgood
        refine wp_calls hJ ?_ (h.out w hJ.sees) hk
        rw [hex]
        simp only [resolve, hcal, hf, hm, Deferred.ofValue, Sem.run_bind, Sem.run_pure, Result.andThen_ok, invoke]
        have e : (first ++ args.toArray ++ captured) = (first.toList ++ args ++ captured.toList).toArray := by apply Array.ext'; simp
        rw [e]
        exact run_callFunc hgood
      · obtain ⟨v, w', H', hr, hn, hx⟩ := h.out w hJ.sees
        obtain ⟨x, sv, hcc, rfl, hK⟩ := exR_get (β := β) hx
        refine wp_value (v := v) (w' := w') ?_ (hk sv st H' β v w' hK hcc (hJ.step hn) (Ext.refl _ _) rfl fun _ _ _ h => h)
        rw [hex]
        simp only [resolve, hcal, hf, hm, Deferred.ofValue, Sem.run_bind, Sem.run_pure, Result.andThen_ok, invoke]
        have e : (first ++ args.toArray ++ captured) = (first.toList ++ args ++ captured.toList).toArray := by apply Array.ext'; simp
        rw [e]
        exact hr
    · rename_i fv he
      have hf := hJ.tm.ev f
      rw [he] at hf
      simp only [SV.conc] at hf
      cases lc with
      | true =>
        rcases h.out w hJ.sees with ⟨g, xs, hr, hc⟩ | ⟨l, g, tmps, assign, body, hr, hc⟩
        · refine wp_calls hJ ?_ hc hk
          rw [hex]
          simp only [resolve, hcal, hf, hm]
          exact hr
        · refine wp_rounds hJ ?_ hc hk
          rw [hex]
          simp only [resolve, hcal, hf, hm]
          exact hr
      | false =>
        obtain ⟨g, xs, hr, hc⟩ := h.out w hJ.sees
        refine wp_calls hJ ?_ hc hk
        rw [hex]
        simp only [resolve, hcal, hf, hm]
        exact hr
    · cases h
  · rename_i r name args hcal hargs
    have hm := args_map hargs hJ.tm
    split at h
    · rename_i rv hrv
      have hr := hJ.tm.val hrv
      obtain ⟨g, xs, hrun, hc⟩ := h.out w hJ.sees
      refine wp_calls hJ ?_ hc hk
      rw [hex]
      simp only [resolve, hcal, hr, hm, Sem.run_bind, Sem.run_pure, Result.andThen_ok]
      exact hrun
    · cases h
  · rename_i b args hcal hargs
    have hm := args_map hargs hJ.tm
    have hbi : ∀ s : Sem Value, (∀ q, Go.builtin b c.argTypes o.type q args.toArray = (do pure (.value (← s)))) → execOp a.eval o = (do pure (.value (← s))) := by
      intro s hs
      rw [hex]
      simp only [resolve, hcal, hm, pure_bind, invoke, hs]
    split at h
    · exact wp_evV hJ (hbi _ fun q => rfl) h (fun v H' hh => evR_get hh) hk
    · exact wp_evV hJ (hbi _ fun q => rfl) h (fun v H' hh => evR_get hh) hk
    · exact wp_evV hJ (hbi _ fun q => rfl) h (fun v H' hh => ⟨.unk, trivial, hh⟩) hk
    · exact wp_evV hJ (hbi _ fun q => rfl) h (fun v H' hh => ⟨.unk, trivial, hh⟩) hk
    · exact wp_evV hJ (hbi _ fun q => rfl) h (fun v H' hh => evR_get hh) hk
    · exact wp_evV hJ (hbi _ fun q => rfl) h (fun v H' hh => evR_get hh) hk
    · exact wp_evV hJ (hbi _ fun q => rfl) h (fun v H' hh => evR_get hh) hk
    · cases h
  · cases h
theorem okThen_get {sv : SV} {v : Value} {K : List Value → Prop} (h : okThen sv v K) (hv : sv.val? = some v) : K (cellsL v) ∧ ∀ u ∈ cellsL v, okCell u = true := by
  unfold okThen at h
  split at h
  · rename_i u
    simp only [SV.val?, Option.some.injEq] at hv
    subst hv
    have e : cellsL u = [u] := by have := h.1.out; cases u <;> simp_all [okCell, cellsL]
    rw [e]
    exact ⟨h.2, by simpa using h.1.out⟩
  · split at h
    · rename_i hall; exact ⟨h, by simpa using hall⟩
    · cases h
theorem over_len {c l : List Value} {off : Nat} (h : off + l.length ≤ c.length) : (over c off l).length = c.length := by simp [over]; omega
theorem vEff_sound {cx : Cx} {lc : Bool} {K : SV → St → PHeap → Prop} (hJ : J pd H0 w0 β st H a w) (h : vEff cx P lc st H o K) (hk : Hands pd H0 w0 β st a lc K fun y w' => next (a.put o.dst y) w') : OpOk P r lc o a w next Q := by
  have ht := hJ.tm
  obtain ⟨dst, op, type, pos, after, guard⟩ := o
  unfold vEff at h
  cases op <;> simp only at h <;> try (cases h; done)
  case alloc t =>
    split at h
    · rename_i z hz
      refine vNew_sound hJ h ?_ hk
      simp [execOp, Instr.alloc, run_zero hz, newVar, newRow, cells_arr]
    · cases h
  case box t x =>
    split at h
    · rename_i v hv
      obtain ⟨h, _⟩ := okThen_get h hv
      refine vNew_sound hJ h ?_ hk
      simp [execOp, Instr.box, ht.val hv, newVar, newRow, cells_arr]
    · cases h
  case store t ad x =>
    split at h
    · rename_i b off v n he hv hn
      obtain ⟨h2, hok⟩ := okThen_get h hv
      clear h
      split at h2
      · rename_i c cs hd
        split at h2
        · cases h2
        · rename_i hfz
          split at h2
          · rename_i hl
            have hb := drop_cons hd
            have ha := ht.ev ad
            rw [he] at ha
            obtain ⟨g, hg, ha⟩ := ha
            obtain ⟨g', hg', hh⟩ := hJ.bx b c hb
            rw [hg] at hg'
            obtain rfl := Option.some.inj hg'
            have hlen : off + (cellsL v).length ≤ c.cells.length := by omega
            obtain ⟨hext, hJ'⟩ := hJ.store hb hg (by simpa using hfz) (over c.cells off (cellsL v)) (over_len hlen)
            have hrun := run_storeVar_gen (P := P) (t := t) (v := v) (o := off) (by rw [hn, hl.1]) hh (fun j _ => by omega) (by simpa using hlen) hok
            refine wp_skip' (w' := w.setRow g (over c.cells off (cellsL v)).toArray) ?_ (hk .unk _ H β undef _ h2 trivial hJ' hext rfl fun hx => by cases hx)
            simp [execOp, ha, ht.val hv, Instr.storeAt, Instr.sureAddr, hrun]
          · cases h2
      · cases h2
    · rename_i oa v n he hv hn
      obtain ⟨h2, hok⟩ := okThen_get h hv
      clear h
      split at h2
      · rename_i hl
        obtain ⟨H', hw, hK⟩ := h2
        obtain ⟨g, off, c, e, lo, hi, rfl, hg, hf, hlen, hnx⟩ := hw.sound hJ.sees
        have hrun := run_storeVar_gen (P := P) (t := t) (v := v) (by rw [hn, hl]) hg hf hlen hok
        refine wp_skip' (w' := w.setRow g (over c.toList off (cellsL v)).toArray) ?_ (hk .unk st H' β undef _ hK trivial (hJ.step hnx) (Ext.refl _ _) rfl fun _ _ _ h => h)
        simp [execOp, ht.v he, ht.val hv, Instr.storeAt, Instr.sureAddr, hrun]
      · cases h2
    · cases h
  case buildSlice t len parts =>
    split at h
    · rename_i e ps hu hps
      split at h
      · rename_i n z hn hz
        split at h
        · rename_i cells h1 h2 h3
          have h1 := of_decide_eq_true h1
          have h2 := of_decide_eq_true h2
          have hnone : H w.heap.size = none := by
            cases hh : H w.heap.size with
            | none => rfl
            | some o => have := hJ.sees.lt (k := w.heap.size) (by rw [hh]; simp); omega
          refine wp_value (w' := w.alloc (.cells cells.toArray e (0, 0))) (v := .slice (some ⟨w.heap.size, 0, none⟩) len len) ?_ (hk _ st _ β _ _ (h _ hnone) rfl (hJ.step (Nx.alloc hJ.sees _)) (Ext.refl _ _) rfl fun _ _ _ h => h)
          have e1 : (parts.map fun (i, x) => (i, a.eval x)).toList = ps := by
            have := ht.partVals hps
            rw [← this]; simp
          have e2 : ((Array.range (len * n)).map fun i => (cellsL z).toArray[i % n]!) = ((List.replicate len (cellsL z)).flatten).toArray := by
            apply Array.ext'
            rw [← flatten_range (cellsL z) n h2 len]
            simp
          have e3 := fill_eq (fun i => some (i * n, n)) ps ((List.replicate len (cellsL z)).flatten).toArray cells (by simpa using h3)
          have e4 : ¬ (len * n > 2 ^ 24) := by omega
          have hsz : z.cells = (cellsL z).toArray := (cells_arr z).symm
          have hsz' : z.cells.size = n := by rw [cells_size]; exact h2
          by_cases h0 : len * n = 0
          · have e5 : ((List.replicate len (cellsL z)).flatten) = [] := by
              rw [← flatten_range (cellsL z) n h2 len, h0]; rfl
            rw [e5] at e3
            have e6 : ∀ z : Array Value, (Array.map (fun x => z[x % z.size]!) (Array.range 0)) = #[] := fun z => by apply Array.ext'; simp
            have e7 : ¬ ((0 : Nat) > 2 ^ 24) := by omega
            simp only [execOp, Instr.buildSlice, Sem.run_bind, run_und hu, Result.andThen_ok, run_size hn, h0, if_neg e7, if_true, e1, e6, e3, Sem.run_pure]
            simp [newRow]
          · simp only [execOp, Instr.buildSlice, Sem.run_bind, run_und hu, Result.andThen_ok, run_size hn, e4, if_false, Sem.run_pure, h0, e1, run_zero hz]
            rw [hsz', hsz, e2, e3]
            simp [newRow]
        · cases h
      · cases h
    · cases h
  case call c => exact vCall_sound rfl hJ h hk
  case mapUpdate t m k x =>
    split at h
    · rename_i vm vk vx hm hk' hx
      exact wp_evU hJ (by simp [execOp, ht.val hm, ht.val hk', ht.val hx]) h hk
    · cases h
  case insert t m k x =>
    split at h
    · rename_i vm vk vx hm hk' hx
      exact wp_evU hJ (by simp [execOp, ht.val hm, ht.val hk', ht.val hx]) h hk
    · cases h
  case mapEntry t m k =>
    split at h
    · rename_i vm vk kt e hm hk' hu
      split at h
      · rename_i z hz
        refine wp_evV hJ (by simp [execOp, ht.val hm, ht.val hk']) h (fun v H' hh => ?_) hk
        obtain ⟨x, n, rfl, hK⟩ := exV_get hh
        exact ⟨.v _, rfl, hK⟩
      · cases h
    · cases h
  case entryStore t m s x =>
    split at h
    · rename_i vm vk vx hm hk' hx
      exact wp_evU hJ (by simp [execOp, ht.val hm, ht.val hk', ht.val hx]) h hk
    · cases h
  case makeMap t r =>
    split at h
    · rename_i vr hr
      refine wp_evV hJ (by simp [execOp, ht.optVal hr]) h (fun v H' hh => ?_) hk
      obtain ⟨m, rfl, hK⟩ := hh
      exact ⟨.v _, rfl, hK⟩
    · cases h
  case makeSlice t l c =>
    split at h
    · rename_i vl vc hl hc
      refine wp_evV hJ (by simp [execOp, ht.val hl, ht.val hc]) h (fun v H' hh => ?_) hk
      obtain ⟨x, y, z, rfl, hK⟩ := hh
      exact ⟨.v _, rfl, hK⟩
    · cases h
  case range t x =>
    split at h
    · rename_i vx hx
      refine wp_evV hJ (by simp [execOp, ht.val hx]) h (fun v H' hh => ?_) hk
      obtain ⟨m, rfl, hK⟩ := hh
      exact ⟨.v _, rfl, hK⟩
    · cases h
  case next it s =>
    split at h
    · rename_i vi hi
      refine wp_evV hJ (by simp [execOp, ht.val hi]) h (fun v H' hh => ?_) hk
      rcases hh with ⟨rfl, hK⟩ | hh
      · exact ⟨.v _, rfl, hK⟩
      · cases s with
        | true =>
          obtain ⟨i, c, rfl, hK⟩ := hh
          exact ⟨.v _, rfl, hK⟩
        | false =>
          obtain ⟨k, x, rfl, hK⟩ := hh
          exact ⟨.v _, rfl, hK⟩
    · cases h
  case entry it =>
    split at h
    · rename_i vi ts hi hu
      split at h
      · rename_i zs hz
        refine wp_evV hJ (by simp [execOp, ht.val hi]) h (fun v H' hh => ?_) hk
        obtain ⟨l, rfl, hK⟩ := exVs_get hh
        exact ⟨.v _, rfl, hK⟩
      · cases h
    · cases h
  case convert src dst x =>
    split at h
    · rename_i vx hx
      exact wp_evV hJ (by simp [execOp, ht.val hx]) h (fun v H' hh => evR_get hh) hk
    · cases h
  case typeAssert x xt at_ ok =>
    split at h
    · rename_i vx hx
      exact wp_evV hJ (by simp [execOp, ht.val hx]) h (fun v H' hh => evR_get hh) hk
    · cases h
end
end Go.Vx
