/- A text that strconv.Quote gives can be read back: plain words. -/
import Derived.Lib.QuoteLoop
import Derived.Lib.MapLaws
import Derived.Laws.BytesArg
namespace Go.Mdl
open Go.Lib

def unhex (x : Int) : Int := if x < 58 then x - 48 else x - 87
def val4 (a b c d : Int) : Int := ((unhex a * 16 + unhex b) * 16 + unhex c) * 16 + unhex d
/-- The bytes that the next piece of a quoted text stands for, and the rest. -/
def rd : List Int → Option (List Int × List Int)
  | 92 :: 120 :: h :: l :: r => some ([unhex h * 16 + unhex l], r)
  | 92 :: 117 :: a :: b :: c :: d :: r => some (encodeRuneZ (val4 a b c d), r)
  | 92 :: 85 :: a :: b :: c :: d :: e :: f :: g :: h :: r => some (encodeRuneZ (val4 a b c d * 65536 + val4 e f g h), r)
  | 92 :: x :: r => some ([if x = 97 then 7 else if x = 98 then 8 else if x = 102 then 12 else if x = 110 then 10 else if x = 114 then 13 else if x = 116 then 9 else if x = 118 then 11 else x], r)
  | x :: r => if x < 192 then some ([x], r) else if x < 224 then some ((x :: r).take 2, r.drop 1) else if x < 240 then some ((x :: r).take 3, r.drop 2) else some ((x :: r).take 4, r.drop 3)
  | [] => none
theorem unhex_digit {x : Nat} (h : x < 16) : unhex (hexDigit x) = x := by
  unfold unhex hexDigit
  repeat' split
  all_goals omega
/-- A character by itself. -/
theorem rd_self {x : Int} {r : List Int} (h0 : x ≠ 92) (h1 : x < 192) : rd (x :: r) = some ([x], r) := by
  unfold rd
  split
  all_goals first
    | (rename_i e; injection e with e1 e2; exact absurd e1 h0)
    | skip
  · rename_i y r' _ e
    injection e with e1 e2
    subst e1 e2
    rw [if_pos h1]
  · rename_i e; cases e
theorem rd_big {x : Int} {r : List Int} (h1 : 192 ≤ x) : rd (x :: r) = if x < 224 then some ((x :: r).take 2, r.drop 1) else if x < 240 then some ((x :: r).take 3, r.drop 2) else some ((x :: r).take 4, r.drop 3) := by
  unfold rd
  split
  all_goals first
    | (rename_i e; injection e with e1 e2; omega)
    | skip
  · rename_i y r' _ e
    injection e with e1 e2
    subst e1 e2
    rw [if_neg (by omega)]
  · rename_i e; cases e
theorem rd_rune {r : Int} {u : List Int} (h : validRune r = true) (h2 : r ≠ 92) : rd (encodeRuneZ r ++ u) = some (encodeRuneZ r, u) := by
  simp only [validRune, decide_eq_true_eq] at h
  by_cases c1 : r ≤ 127
  · rw [encodeRuneZ_one (by omega) c1]
    exact rd_self h2 (by omega)
  by_cases c2 : r ≤ 2047
  · rw [encodeRuneZ_two (by omega) c2]
    simp only [List.cons_append, List.nil_append]
    rw [rd_big (by omega), if_pos (by omega)]
    simp
  by_cases c3 : r ≤ 65535
  · rw [encodeRuneZ_three (by omega)]
    simp only [List.cons_append, List.nil_append]
    rw [rd_big (by omega), if_neg (by omega), if_pos (by omega)]
    simp
  · rw [encodeRuneZ_four (by omega) (by omega)]
    simp only [List.cons_append, List.nil_append]
    rw [rd_big (by omega), if_neg (by omega), if_neg (by omega)]
    simp
theorem hex4 {n : Nat} (h : n < 65536) : val4 (hexDigit (n / 4096 % 16)) (hexDigit (n / 256 % 16)) (hexDigit (n / 16 % 16)) (hexDigit (n % 16)) = n := by
  unfold val4
  rw [unhex_digit (by omega), unhex_digit (by omega), unhex_digit (by omega), unhex_digit (by omega)]
  omega
theorem rd_esc (T : PrintTabs) {r : Nat} {u : List Int} (h : validRune r = true) : rd (escRune T r ++ u) = some (encodeRuneZ r, u) := by
  unfold escRune
  have one : ∀ {x : Int}, (r : Int) = x → 0 ≤ x → x ≤ 127 → encodeRuneZ (r : Int) = [x] := fun e h0 h1 => by rw [e]; exact encodeRuneZ_one h0 h1
  by_cases c : (r : Int) = 34 ∨ (r : Int) = 92
  · rw [if_pos c]
    rcases c with c | c <;> rw [one c (by omega) (by omega), c] <;> simp [rd]
  rw [if_neg c]
  by_cases c1 : isPrintR T r = true
  · rw [if_pos c1]; exact rd_rune h (fun e => c (.inr e))
  rw [if_neg c1]
  by_cases d7 : (r : Int) = 7
  · rw [if_pos d7, one d7 (by omega) (by omega)]; simp [rd]
  rw [if_neg d7]
  by_cases d8 : (r : Int) = 8
  · rw [if_pos d8, one d8 (by omega) (by omega)]; simp [rd]
  rw [if_neg d8]
  by_cases d12 : (r : Int) = 12
  · rw [if_pos d12, one d12 (by omega) (by omega)]; simp [rd]
  rw [if_neg d12]
  by_cases d10 : (r : Int) = 10
  · rw [if_pos d10, one d10 (by omega) (by omega)]; simp [rd]
  rw [if_neg d10]
  by_cases d13 : (r : Int) = 13
  · rw [if_pos d13, one d13 (by omega) (by omega)]; simp [rd]
  rw [if_neg d13]
  by_cases d9 : (r : Int) = 9
  · rw [if_pos d9, one d9 (by omega) (by omega)]; simp [rd]
  rw [if_neg d9]
  by_cases d11 : (r : Int) = 11
  · rw [if_pos d11, one d11 (by omega) (by omega)]; simp [rd]
  rw [if_neg d11]
  by_cases c2 : (r : Int) < 32 ∨ (r : Int) = 127
  · rw [if_pos c2]
    have hr : r < 128 := by omega
    rw [encodeRuneZ_one (by omega) (by omega)]
    simp only [List.cons_append, List.nil_append, rd, Int.toNat_natCast]
    rw [unhex_digit (by omega), unhex_digit (by omega)]
    have : ((r / 16 : Nat) : Int) * 16 + ((r % 16 : Nat) : Int) = r := by omega
    rw [this]
  rw [if_neg c2, if_neg (by rw [h]; simp)]
  simp only [validRune, decide_eq_true_eq] at h
  by_cases c3 : (r : Int) < 65536
  · rw [if_pos c3]
    have e := hex4 (n := r) (by omega)
    simp only [hexDigits, List.cons_append, List.nil_append, rd, Int.toNat_natCast, Nat.reducePow, Nat.div_one]
    rw [e]
  · rw [if_neg c3]
    have e1 := hex4 (n := r / 65536) (by omega)
    have e2 := hex4 (n := r % 65536) (by omega)
    have d : ∀ k, r / 65536 / k = r / (65536 * k) := fun k => Nat.div_div_eq_div_mul ..
    rw [d, d, d] at e1
    have m3 : r % 65536 / 4096 % 16 = r / 4096 % 16 := by omega
    have m2 : r % 65536 / 256 % 16 = r / 256 % 16 := by omega
    have m1 : r % 65536 / 16 % 16 = r / 16 % 16 := by omega
    have m0 : r % 65536 % 16 = r % 16 := by omega
    rw [m3, m2, m1, m0] at e2
    simp only [hexDigits, List.cons_append, List.nil_append, rd, Int.toNat_natCast, Nat.reducePow, Nat.div_one]
    simp only [Nat.reduceMul] at e1
    rw [e1, e2]
    have : ((r / 65536 : Nat) : Int) * 65536 + ((r % 65536 : Nat) : Int) = r := by omega
    rw [this]
/-- The bytes of a text, as numbers. -/
def nums (l : List UInt8) : List Int := l.map fun b => (b.toNat : Int)
theorem nums_inj {a b : List UInt8} (h : nums a = nums b) : a = b := by
  unfold nums at h
  refine (List.map_inj_right fun x y e => ?_).1 h
  exact UInt8.toNat_inj.1 (by have : (x.toNat : Int) = y.toNat := e; omega)
theorem nums_back : ∀ {z : List Int}, (∀ x ∈ z, 0 ≤ x ∧ x < 256) → nums (z.map fun x => x.toNat.toUInt8) = z
  | [], _ => rfl
  | x :: z, h => by
    have h0 := h x (List.mem_cons_self ..)
    have ih := nums_back fun y hy => h y (List.mem_cons_of_mem _ hy)
    simp only [nums, List.map_cons, List.map_map] at ih ⊢
    rw [ih]
    congr 1
    simp only [Nat.toUInt8, UInt8.toNat_ofNat']
    omega
theorem rd_step (T : PrintTabs) {l : List UInt8} (hne : l ≠ []) (u : List Int) : ∃ k, 1 ≤ k ∧ k ≤ l.length ∧ (Utf8.decode (⟨l.toArray⟩ : ByteArray) 0).2 = k ∧ rd (quoteStep T ⟨l.toArray⟩ ++ u) = some (nums (l.take k), u) := by
  have hsz : (⟨l.toArray⟩ : ByteArray).size = l.length := by simp [ByteArray.size]
  have hpos : 0 < l.length := List.length_pos_iff.2 hne
  have hw := width_le ⟨l.toArray⟩ (by rw [hsz]; exact hpos)
  have hp := width_pos ⟨l.toArray⟩ 0
  rw [hsz] at hw
  refine ⟨_, hp, hw, rfl, ?_⟩
  by_cases hb : (Utf8.decode (⟨l.toArray⟩ : ByteArray) 0).2 = 1 ∧ (Utf8.decode (⟨l.toArray⟩ : ByteArray) 0).1 = 65533
  · obtain ⟨x, r, rfl⟩ : ∃ x r, l = x :: r := by cases l with | nil => exact absurd rfl hne | cons x r => exact ⟨x, r, rfl⟩
    have hx : (⟨(x :: r).toArray⟩ : ByteArray).get! 0 = x := rfl
    have := x.toNat_lt
    have hq : quoteStep T ⟨(x :: r).toArray⟩ = [92, 120, hexDigit (x.toNat / 16), hexDigit (x.toNat % 16)] := by
      unfold quoteStep; rw [if_pos hb, hx]
    rw [hq, hb.1]
    simp only [List.cons_append, List.nil_append, rd, List.take_succ_cons, List.take_zero, nums, List.map_cons, List.map_nil]
    rw [unhex_digit (by omega), unhex_digit (by omega)]
    have : ((x.toNat / 16 : Nat) : Int) * 16 + ((x.toNat % 16 : Nat) : Int) = x.toNat := by omega
    rw [this]
  · rw [quoteStep_good T _ hb, rd_esc T (rune_valid _)]
    have := encode_decode l hne (by
      unfold decodeL
      exact fun h => hb ⟨h.2, h.1⟩)
    unfold decodeL at this
    rw [← this]
    unfold encodeRune
    rw [nums_back (encodeRuneZ_byte _)]
theorem extract_drop (l : List UInt8) (k : Nat) : (⟨l.toArray⟩ : ByteArray).extract k (⟨l.toArray⟩ : ByteArray).size = ⟨(l.drop k).toArray⟩ := by
  apply ByteArray.ext
  simp [ByteArray.data_extract, ByteArray.size]
  exact List.take_of_length_le (by simp)
theorem not_quote (T : PrintTabs) {l : List UInt8} (hne : l ≠ []) (u v : List Int) : quoteStep T ⟨l.toArray⟩ ++ u ≠ 34 :: v := by
  intro h
  obtain ⟨k, h1, h2, h3, h4⟩ := rd_step T hne u
  rw [h, rd_self (by decide) (by decide)] at h4
  obtain ⟨x, r, rfl⟩ : ∃ x r, l = x :: r := by cases l with | nil => exact absurd rfl hne | cons x r => exact ⟨x, r, rfl⟩
  obtain ⟨k, rfl⟩ : ∃ j, k = j + 1 := ⟨k - 1, by omega⟩
  simp only [Option.some.injEq, Prod.mk.injEq, List.take_succ_cons, nums, List.map_cons] at h4
  have hx : x.toNat = 34 := by
    have := h4.1
    injection this with e _
    omega
  have hg : (⟨(x :: r).toArray⟩ : ByteArray).get! 0 = x := rfl
  have hd : Utf8.decode (⟨(x :: r).toArray⟩ : ByteArray) 0 = (34, 1) := by
    rw [decode_at, hg, hx]
    simp [decodeN]
  have hq : quoteStep T ⟨(x :: r).toArray⟩ = [92, 34] := by
    unfold quoteStep
    rw [hd, if_neg (by simp)]
    simp [escRune]
  rw [hq] at h
  injection h with e _
  omega
theorem quote_cut (T : PrintTabs) : ∀ (n fa fb : Nat) (a b : List UInt8) (u v : List Int), a.length ≤ n → a.length ≤ fa → b.length ≤ fb →
    quoteFrom T fa ⟨a.toArray⟩ ++ 34 :: u = quoteFrom T fb ⟨b.toArray⟩ ++ 34 :: v → a = b ∧ u = v := by
  intro n
  induction n with
  | zero =>
    intro fa fb a b u v hn ha hb h
    obtain rfl : a = [] := List.eq_nil_of_length_eq_zero (by omega)
    rw [quoteFrom_end T fa _ (by simp [ByteArray.size])] at h
    by_cases e : b = []
    · subst e
      rw [quoteFrom_end T fb _ (by simp [ByteArray.size])] at h
      simpa using h
    · rw [quoteFrom_step T fb _ (by simpa [ByteArray.size] using List.length_pos_iff.2 e) (by simpa [ByteArray.size] using hb), List.append_assoc] at h
      exact (not_quote T e _ _ h.symm).elim
  | succ n ih =>
    intro fa fb a b u v hn ha hb h
    by_cases ea : a = []
    · subst ea
      rw [quoteFrom_end T fa _ (by simp [ByteArray.size])] at h
      by_cases e : b = []
      · subst e
        rw [quoteFrom_end T fb _ (by simp [ByteArray.size])] at h
        simpa using h
      · rw [quoteFrom_step T fb _ (by simpa [ByteArray.size] using List.length_pos_iff.2 e) (by simpa [ByteArray.size] using hb), List.append_assoc] at h
        exact (not_quote T e _ _ h.symm).elim
    · rw [quoteFrom_step T fa _ (by simpa [ByteArray.size] using List.length_pos_iff.2 ea) (by simpa [ByteArray.size] using ha), List.append_assoc] at h
      by_cases e : b = []
      · subst e
        rw [quoteFrom_end T fb _ (by simp [ByteArray.size])] at h
        exact (not_quote T ea _ _ h).elim
      · rw [quoteFrom_step T fb _ (by simpa [ByteArray.size] using List.length_pos_iff.2 e) (by simpa [ByteArray.size] using hb), List.append_assoc] at h
        obtain ⟨k, k1, k2, k3, k4⟩ := rd_step T ea (quoteFrom T (fa - 1) ((⟨a.toArray⟩ : ByteArray).extract (Utf8.decode ⟨a.toArray⟩ 0).2 (⟨a.toArray⟩ : ByteArray).size) ++ 34 :: u)
        obtain ⟨m, m1, m2, m3, m4⟩ := rd_step T e (quoteFrom T (fb - 1) ((⟨b.toArray⟩ : ByteArray).extract (Utf8.decode ⟨b.toArray⟩ 0).2 (⟨b.toArray⟩ : ByteArray).size) ++ 34 :: v)
        rw [h, m4] at k4
        simp only [Option.some.injEq, Prod.mk.injEq] at k4
        obtain ⟨e1, e2⟩ := k4
        have e1 := nums_inj e1
        rw [k3, m3, extract_drop, extract_drop] at e2
        obtain ⟨e3, e4⟩ := ih (fa - 1) (fb - 1) (a.drop k) (b.drop m) u v (by simp; omega) (by simp; omega) (by simp; omega) e2.symm
        exact ⟨by rw [← List.take_append_drop k a, ← e1, e3, List.take_append_drop], e4⟩
/-- Two quoted texts ahead of two rests: where they are the same, all are. -/
theorem quote_inj (T : PrintTabs) {a b : ByteArray} {u v : List Int} (h : quoteZ T a ++ u = quoteZ T b ++ v) : a = b ∧ u = v := by
  obtain ⟨a⟩ := a
  obtain ⟨b⟩ := b
  unfold quoteZ at h
  simp only [List.cons_append, List.append_assoc, List.nil_append, List.cons.injEq, true_and] at h
  have := quote_cut T a.size a.size b.size a.toList b.toList u v (by simp) (by simp) (by simp) (by simpa [ByteArray.size] using h)
  exact ⟨by rw [← Array.toList_inj.1 this.1], this.2⟩
end Go.Mdl
