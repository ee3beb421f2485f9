/- A possibility's text: its contract; two that differ have two texts. -/
import Derived.Test.YtlhnepjidbofnaaDoorMdlB
import Derived.Test.YtlhnepjidbofnaaDoorMdlQ
import Derived.Test.YtlhnepjidbofnaaDoorVcMdl
namespace Go.Mdl
open Go.Vx Go.Vc Go.Proofs

abbrev Fl := Bool × ByteArray
/-- A possibility: a blob, or none, and what floats. -/
structure Ch where
  p : Bool
  d : ByteArray
  fl : List Fl
def fE (f : Fl) : List Value := [.bool f.1, .string f.2]
theorem fLen (f : Fl) : (fE f).length = 2 := rfl
/-- .. as it lies in memory. -/
structure Cv where
  p : Bool
  d : ByteArray
  a : Option Addr
  n : Nat
  c : Nat
def cE (v : Cv) : List Value := [.bool v.p, .string v.d, .slice v.a v.n v.c]
theorem cLen (v : Cv) : (cE v).length = 3 := rfl
theorem cOne (v : Cv) : ∀ u ∈ cE v, u.oneCell' = true := fun u hu => by simp [cE] at hu; rcases hu with rfl | rfl | rfl <;> rfl
structure ChR (H : PHeap) (v : Cv) (x : Ch) : Prop where
  p : v.p = x.p
  d : v.d = x.d
  fl : RdL H fE 2 v.a v.n x.fl
  ty : ∀ a, v.a = some a → ∃ c r, H a.block = some (.cells c 71 r)
/-- All rows of floats stay. -/
def FlK (H H' : PHeap) : Prop := ∀ b c r, H b = some (.cells c 71 r) → H' b = some (.cells c 71 r)
theorem ChR.keep {H H' : PHeap} {v : Cv} {x : Ch} (hs : FlK H H') (h : ChR H v x) : ChR H' v x :=
  ⟨h.p, h.d, h.fl.part fun a o ha ho => by obtain ⟨c, r, hc⟩ := h.ty a ha; rw [hc] at ho; cases ho; exact hs _ _ _ hc, fun a ha => by obtain ⟨c, r, hc⟩ := h.ty a ha; exact ⟨c, r, hs _ _ _ hc⟩⟩
theorem ChR.mono {H H' : PHeap} {v : Cv} {x : Ch} (hs : Sub H H') (h : ChR H v x) : ChR H' v x := h.keep fun b c r hk => hs.le _ _ hk
theorem FlK.upd {H : PHeap} {b : Nat} {o : Obj} (h : ∀ c r, H b ≠ some (.cells c 71 r)) : FlK H (H.upd b o) := fun k c r hk => by
  rw [upd_ne _ _ fun e => by rw [e] at hk; exact h _ _ hk]; exact hk
theorem FlK.trans {H H' H'' : PHeap} (h : FlK H H') (h' : FlK H' H'') : FlK H H'' := fun b c r hk => h' _ _ _ (h _ _ _ hk)
theorem FlK.frame {H H' : PHeap} {oa : Option Addr} (hf : Vx.Frame oa H H') (h : ∀ a, oa = some a → ∀ c r, H a.block ≠ some (.cells c 71 r)) : FlK H H' := fun b c r hk => hf _ _ hk fun a ha e => by
  rw [e] at hk; exact h a ha _ _ hk
/-- What is small. -/
def okC (x : Ch) : Prop := x.d.size ≤ 1000 ∧ x.fl.length ≤ 10 ∧ ∀ f ∈ x.fl, f.2.size ≤ 1000
def bT (T : Lib.PrintTabs) (b : Bool) (s : ByteArray) : List Int := bytesL (boolT b) ++ Lib.quoteZ T s
def txt (T : Lib.PrintTabs) (x : Ch) : List Int := bT T x.p x.d ++ x.fl.flatMap fun f => bT T f.1 f.2
theorem bT_inj (T : Lib.PrintTabs) {b b' : Bool} {s s' : ByteArray} {u v : List Int} (h : bT T b s ++ u = bT T b' s' ++ v) : b = b' ∧ s = s' ∧ u = v := by
  have hb : b = b' := by
    cases b <;> cases b' <;> first | rfl | (simp [bT, bytesL, boolT] at h)
  subst hb
  unfold bT at h
  rw [List.append_assoc, List.append_assoc] at h
  have := quote_inj T (List.append_cancel_left h)
  exact ⟨rfl, this.1, this.2⟩
theorem bT_ne (T : Lib.PrintTabs) (b : Bool) (s : ByteArray) (u : List Int) : bT T b s ++ u ≠ [] := by
  cases b <;> simp [bT, bytesL, boolT]
theorem fl_inj (T : Lib.PrintTabs) : ∀ {l m : List Fl}, (l.flatMap fun f => bT T f.1 f.2) = (m.flatMap fun f => bT T f.1 f.2) → l = m
  | [], [], _ => rfl
  | [], f :: m, h => by rw [List.flatMap_cons] at h; exact (bT_ne T _ _ _ h.symm).elim
  | f :: l, [], h => by rw [List.flatMap_cons] at h; exact (bT_ne T _ _ _ h).elim
  | (b, s) :: l, (b', s') :: m, h => by
    rw [List.flatMap_cons, List.flatMap_cons] at h
    obtain ⟨e1, e2, e3⟩ := bT_inj T h
    simp only at e1 e2
    rw [e1, e2, fl_inj T e3]
theorem txt_inj (T : Lib.PrintTabs) {x y : Ch} (h : txt T x = txt T y) : x = y := by
  obtain ⟨p, d, fl⟩ := x
  obtain ⟨p', d', fl'⟩ := y
  obtain ⟨e1, e2, e3⟩ := bT_inj T h
  simp only at e1 e2 e3
  rw [e1, e2, fl_inj T e3]
theorem hexDigit_range {x : Nat} (h : x < 16) : 0 ≤ Lib.hexDigit x ∧ Lib.hexDigit x ≤ 255 := by unfold Lib.hexDigit; split <;> omega
theorem hexDigits_range (r : Nat) : ∀ n, ∀ x ∈ Lib.hexDigits r n, 0 ≤ x ∧ x ≤ 255
  | 0, x, h => by simp [Lib.hexDigits] at h
  | n + 1, x, h => by
    rw [Lib.hexDigits] at h
    rcases List.mem_cons.1 h with rfl | h
    · exact hexDigit_range (by omega)
    · exact hexDigits_range r n x h
theorem esc_range (T : Lib.PrintTabs) (r : Nat) : ∀ x ∈ Lib.escRune T r, 0 ≤ x ∧ x ≤ 255 := by
  intro x hx
  have two : ∀ {b : Int}, 0 ≤ b → b ≤ 255 → x ∈ [92, b] → 0 ≤ x ∧ x ≤ 255 := fun h1 h2 h => by
    simp at h; rcases h with rfl | rfl <;> omega
  unfold Lib.escRune at hx
  by_cases c : (r : Int) = 34 ∨ (r : Int) = 92
  · rw [if_pos c] at hx; exact two (by omega) (by omega) hx
  rw [if_neg c] at hx
  by_cases c1 : Lib.isPrintR T r = true
  · rw [if_pos c1] at hx; have := Lib.encodeRuneZ_byte _ x hx; omega
  rw [if_neg c1] at hx
  by_cases d7 : (r : Int) = 7
  · rw [if_pos d7] at hx; exact two (by omega) (by omega) hx
  rw [if_neg d7] at hx
  by_cases d8 : (r : Int) = 8
  · rw [if_pos d8] at hx; exact two (by omega) (by omega) hx
  rw [if_neg d8] at hx
  by_cases d12 : (r : Int) = 12
  · rw [if_pos d12] at hx; exact two (by omega) (by omega) hx
  rw [if_neg d12] at hx
  by_cases d10 : (r : Int) = 10
  · rw [if_pos d10] at hx; exact two (by omega) (by omega) hx
  rw [if_neg d10] at hx
  by_cases d13 : (r : Int) = 13
  · rw [if_pos d13] at hx; exact two (by omega) (by omega) hx
  rw [if_neg d13] at hx
  by_cases d9 : (r : Int) = 9
  · rw [if_pos d9] at hx; exact two (by omega) (by omega) hx
  rw [if_neg d9] at hx
  by_cases d11 : (r : Int) = 11
  · rw [if_pos d11] at hx; exact two (by omega) (by omega) hx
  rw [if_neg d11] at hx
  by_cases c2 : (r : Int) < 32 ∨ (r : Int) = 127
  · rw [if_pos c2] at hx
    have h1 := hexDigit_range (x := r / 16) (by omega)
    have h2 := hexDigit_range (x := r % 16) (by omega)
    simp only [Int.toNat_natCast, List.mem_cons, List.not_mem_nil, or_false] at hx
    rcases hx with rfl | rfl | rfl | rfl <;> omega
  rw [if_neg c2] at hx
  by_cases c3 : Lib.validRune r = false
  · rw [if_pos c3] at hx
    rcases List.mem_cons.1 hx with rfl | hx
    · omega
    rcases List.mem_cons.1 hx with rfl | hx
    · omega
    exact hexDigits_range _ _ _ hx
  rw [if_neg c3] at hx
  by_cases c4 : (r : Int) < 65536
  · rw [if_pos c4] at hx
    rcases List.mem_cons.1 hx with rfl | hx
    · omega
    rcases List.mem_cons.1 hx with rfl | hx
    · omega
    exact hexDigits_range _ _ _ hx
  · rw [if_neg c4] at hx
    rcases List.mem_cons.1 hx with rfl | hx
    · omega
    rcases List.mem_cons.1 hx with rfl | hx
    · omega
    exact hexDigits_range _ _ _ hx
theorem step_range (T : Lib.PrintTabs) (s : ByteArray) : ∀ x ∈ Lib.quoteStep T s, 0 ≤ x ∧ x ≤ 255 := by
  intro x hx
  unfold Lib.quoteStep at hx
  split at hx
  · have h0 := UInt8.toNat_lt (s.get! 0)
    have h1 := hexDigit_range (x := (s.get! 0).toNat / 16) (by omega)
    have h2 := hexDigit_range (x := (s.get! 0).toNat % 16) (by omega)
    simp only [List.mem_cons, List.not_mem_nil, or_false] at hx
    rcases hx with rfl | rfl | rfl | rfl <;> omega
  · exact esc_range T _ x hx
theorem from_range (T : Lib.PrintTabs) : ∀ (f : Nat) (s : ByteArray), ∀ x ∈ Lib.quoteFrom T f s, 0 ≤ x ∧ x ≤ 255
  | 0, s, x, h => by simp [Lib.quoteFrom] at h
  | f + 1, s, x, h => by
    rw [Lib.quoteFrom] at h
    split at h
    · rcases List.mem_append.1 h with h | h
      · exact step_range T s x h
      · exact from_range T f _ x h
    · simp at h
theorem quote_range (T : Lib.PrintTabs) (s : ByteArray) : ∀ x ∈ Lib.quoteZ T s, 0 ≤ x ∧ x ≤ 255 := by
  intro x hx
  unfold Lib.quoteZ at hx
  rcases List.mem_cons.1 hx with rfl | hx
  · omega
  rcases List.mem_append.1 hx with hx | hx
  · exact from_range T _ _ x hx
  · simp at hx; omega
theorem bytesL_app (a b : ByteArray) : bytesL (a ++ b) = bytesL a ++ bytesL b := by
  unfold bytesL
  rw [ByteArray.data_append, Array.toList_append, List.map_append]
theorem bT_range (T : Lib.PrintTabs) (b : Bool) (s : ByteArray) : ∀ x ∈ bT T b s, 0 ≤ x ∧ x ≤ 255 := fun x hx => by
  rcases List.mem_append.1 hx with h | h
  · exact bytesL_range h
  · exact quote_range T s x h
theorem bT_len (T : Lib.PrintTabs) (b : Bool) (s : ByteArray) : (bT T b s).length ≤ 10 * s.size + 7 := by
  have := Lib.quoteZ_length_le T s
  unfold bT
  rw [List.length_append, bytesL_len]
  have : (boolT b).size ≤ 5 := by cases b <;> decide
  omega
theorem bT_str (T : Lib.PrintTabs) (b : Bool) (s : ByteArray) : bytesL (boolT b ++ strOfNums (Lib.quoteZ T s)) = bT T b s := by
  rw [bytesL_app, bytes_strOf (quote_range T s)]; rfl
theorem flT_len (T : Lib.PrintTabs) : ∀ {l : List Fl}, (∀ f ∈ l, f.2.size ≤ 1000) → (l.flatMap fun f => bT T f.1 f.2).length ≤ l.length * 10007
  | [], _ => by simp
  | f :: l, h => by
    have h1 := bT_len T f.1 f.2
    have h2 := h f (List.mem_cons_self ..)
    have h3 := flT_len T (l := l) fun g hg => h g (List.mem_cons_of_mem _ hg)
    rw [List.flatMap_cons, List.length_append, List.length_cons]
    omega

theorem text1_ok {F H : PHeap} {k : Nat} {l : List Int} {T : Lib.PrintTabs} (hT : Tabs F T) (h : Bld F H k l) (b : Bool) {s : ByteArray} (hs : s.size ≤ 1000) (hl : l.length ≤ 1000000) :
    Triple Tryd.prog 42 #[.bool b, .string s, .pointer (at0 k)] H fun v H' => v = .tuple #[] ∧ Bld F H' k (l ++ bT T b s) := by
  have hq := Lib.quoteZ_length_le T s
  have hbs : 4 ≤ (boolT b).size ∧ (boolT b).size ≤ 5 := by cases b <;> decide
  have hsz := strOfNums_size (Lib.quoteZ T s)
  refine mText1.vc b s (at0 k) H _ ((fmtBool_ok b).use ⟨_, rfl, (quote_ok (hT.mono h.sub) s (by omega)).mono ?_⟩)
  rintro _ _ ⟨rfl, rfl⟩
  refine ⟨_, rfl, ⟨by omega⟩, (write_ok h (s := boolT b ++ strOfNums (Lib.quoteZ T s)) (by rw [ByteArray.size_append]; omega) (by rw [ByteArray.size_append]; omega)).mono ?_⟩
  rintro _ H' ⟨rfl, h'⟩
  rw [bT_str] at h'
  exact ⟨_, _, rfl, rfl, h'⟩
/-- What is known behind a call that only makes new things, may be forgotten. -/
theorem Triple.still {P : Program} {f : FuncId} {args : Array Value} {H : PHeap} {R : Value → Prop} (h : Triple P f args H fun v H' => R v ∧ Sub H H') : Triple P f args H fun v H' => R v ∧ H' = H :=
  ⟨fun w hs => (h.out w hs).mono fun _ w' ⟨v, H', e, hn, hr, hsub⟩ => ⟨v, H, e, ⟨hn.os, hn.tape, hn.output, hn.size, hn.keep, fun k hk => .inl hk, sees_sub hsub hn.sees⟩, hr, rfl⟩⟩
theorem text_ok {H : PHeap} {T : Lib.PrintTabs} (hT : Tabs H T) {v : Cv} {x : Ch} (h : ChR H v x) (hx : okC x) :
    Triple Tryd.prog 31 #[.agg (cE v).toArray] H fun u H' => u = .string (strOfNums (txt T x)) ∧ H' = H := by
  obtain ⟨p, d, a, n, c⟩ := v
  obtain ⟨rfl, rfl, hfl, _⟩ := h
  obtain ⟨p, d, fl⟩ := x
  obtain ⟨h1, h2, h3⟩ := hx
  simp only at h1 h2 h3 hfl
  have hn := hfl.len
  have hb0 := bT_len T p d
  have hpre : ∀ i, (bT T p d ++ (fl.take i).flatMap fun f => bT T f.1 f.2).length ≤ 1000000 := fun i => by
    have := flT_len T (l := fl.take i) fun f hf => h3 f (List.mem_of_mem_take hf)
    have h4 : (fl.take i).length ≤ 10 := by rw [List.length_take]; omega
    rw [List.length_append]; omega
  refine Triple.still (mText.vc p d a n c H _ fun k hk => (text1_ok (F := H) hT (l := []) ⟨Sub.upd _ hk, hk, none, none, 0, 0, Bx.new .., .inl rfl, Owns.nil .., (fun _ e => by cases e), Off.none _⟩ p (s := d) (by omega) (by simp)).mono ?_)
  rintro _ H1 ⟨rfl, g1⟩
  refine ⟨rfl, fun t H' => match t with | [.int _ i] => 0 ≤ i ∧ i ≤ n ∧ Bld H H' k (bT T p d ++ (fl.take i.toNat).flatMap fun f => bT T f.1 f.2) | _ => False, fun t _ => match t with | [.int _ i] => (n - i).toNat | _ => 0, ⟨by omega, by omega, by simpa using g1⟩, ?_⟩
  rintro i H2 ⟨i0, i1, g2⟩
  obtain ⟨i, rfl⟩ : ∃ j : Nat, i = j := ⟨i.toNat, by omega⟩
  rw [Int.toNat_natCast] at g2
  refine ⟨fun hi => ?_, fun hi => ?_⟩
  · have hi' : i < n := by simpa using hi
    have hfl2 := hfl.mono g2.sub
    obtain ⟨f, hf, hfr⟩ := hfl2.ex (i := (i : Int)) (by omega) (by omega)
    rw [Int.toNat_natCast] at hf
    refine ⟨hfl2.ob (by omega) (by omega), f.1, f.2, hfr, (text1_ok hT g2 f.1 (s := f.2) (h3 f (List.mem_of_getElem? hf)) (hpre i)).mono ?_⟩
    rintro _ H3 ⟨rfl, g3⟩
    rw [wrap64 (by omega) (by omega)]
    refine ⟨rfl, ⟨by omega, by omega, ?_⟩, ⟨by simp only; omega⟩⟩
    rw [show ((i : Int) + 1).toNat = i + 1 by omega, List.take_add_one, hf, List.flatMap_append]
    simpa using g3
  · have hi' : ¬ i < n := by simpa using hi
    rw [List.take_of_length_le (by omega)] at g2
    have hr := fun y (hy : y ∈ txt T ⟨p, d, fl⟩) => (List.mem_append.1 hy).elim (bT_range T p d y) fun h => by
      obtain ⟨f, _, h⟩ := List.mem_flatMap.1 h
      exact bT_range T f.1 f.2 y h
    refine (string_ok g2 (by cases p <;> simp [bT, bytesL, boolT]) hr (by have := hpre n; rw [List.take_of_length_le (by omega)] at this; omega)).mono ?_
    rintro _ H3 ⟨rfl, hs⟩
    exact ⟨_, rfl, rfl, hs⟩
end Go.Mdl
