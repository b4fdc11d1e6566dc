/- Plain numbers: sets of places of a row as bits; intervals of a row; the rectangles of a set. No program stands here. -/
import Derived.WalkKit
namespace Go.Proofs.YtplamgmmncenjaaDoorR
open Go

theorem dt {p : Prop} [Decidable p] (h : p) : decide p = true := decide_eq_true h
theorem df {p : Prop} [Decidable p] (h : ¬p) : decide p = false := decide_eq_false h

/-! ### masks -/
def mask (l r : Nat) : Nat := 2 ^ r - 2 ^ l
theorem mask_eq {l r : Nat} (h : l ≤ r) : mask l r = 2 ^ l * (2 ^ (r - l) - 1) := by
  obtain ⟨k, rfl⟩ : ∃ k, r = l + k := ⟨r - l, by omega⟩
  rw [mask, Nat.pow_add, show l + k - l = k by omega, Nat.mul_sub]; simp
theorem mask_bit {l r : Nat} (h : l ≤ r) (i : Nat) : (mask l r).testBit i = decide (l ≤ i ∧ i < r) := by
  rw [mask_eq h, Nat.testBit_two_pow_mul, Nat.testBit_two_pow_sub_one, Bool.eq_iff_iff]
  simp; omega
theorem mask_lt {l r : Nat} (h : r ≤ 64) : mask l r < 18446744073709551616 := by
  have h1 : 2 ^ r ≤ 2 ^ 64 := Nat.pow_le_pow_right (by omega) h
  have h2 : 0 < 2 ^ l := Nat.two_pow_pos l
  have h3 : 0 < 2 ^ r := Nat.two_pow_pos r
  unfold mask; simp at h1; omega
theorem bit_lt {p i : Nat} (hp : p < 18446744073709551616) (h : p.testBit i = true) : i < 64 := by
  rcases Nat.lt_or_ge i 64 with h' | h'
  · exact h'
  · have : p < 2 ^ i := Nat.lt_of_lt_of_le (show p < 2 ^ 64 from hp) (Nat.pow_le_pow_right (by omega) h')
    rw [Nat.testBit_lt_two_pow this] at h; cases h
theorem eq_of_bits {a b : Nat} (ha : a < 18446744073709551616) (hb : b < 18446744073709551616) (h : ∀ i, i < 64 → a.testBit i = b.testBit i) : a = b := by
  apply Nat.eq_of_testBit_eq
  intro i
  rcases Nat.lt_or_ge i 64 with h' | h'
  · exact h i h'
  · have e : ∀ x : Nat, x < 18446744073709551616 → x.testBit i = false := fun x hx => Nat.testBit_lt_two_pow (Nat.lt_of_lt_of_le (show x < 2 ^ 64 from hx) (Nat.pow_le_pow_right (by omega) h'))
    rw [e a ha, e b hb]
theorem and_lt {a b : Nat} (ha : a < 18446744073709551616) : a &&& b < 18446744073709551616 := Nat.lt_of_le_of_lt Nat.and_le_left ha
theorem or_lt {a b : Nat} (ha : a < 18446744073709551616) (hb : b < 18446744073709551616) : a ||| b < 18446744073709551616 := Nat.or_lt_two_pow (n := 64) ha hb
theorem compl_bit {b i : Nat} (hi : i < 64) : (18446744073709551615 - b % 18446744073709551616).testBit i = !b.testBit i := by
  have h : (18446744073709551615 - b % 18446744073709551616) = 2 ^ 64 - (b % 2 ^ 64 + 1) := by omega
  rw [h, Nat.testBit_two_pow_sub_succ (Nat.mod_lt _ (by decide)), Nat.testBit_mod_two_pow]
  simp only [hi, decide_true, Bool.true_and]

/-- 'row' -/
theorem row_nat (l r : Nat) (h1 : l < r) (h2 : r ≤ 64) : (18446744073709551615 * 2 ^ l % 18446744073709551616) &&& (18446744073709551615 / 2 ^ (64 - r)) = mask l r := by
  have e1 : (18446744073709551615 * 2 ^ l % 18446744073709551616) = ((2 ^ 64 - 1) <<< l) % 2 ^ 64 := by rw [Nat.shiftLeft_eq]
  have e2 : (18446744073709551615 / 2 ^ (64 - r)) = (2 ^ 64 - 1) >>> (64 - r) := by rw [Nat.shiftRight_eq_div_pow]
  rw [e1, e2]
  apply Nat.eq_of_testBit_eq
  intro i
  rw [Nat.testBit_and, Nat.testBit_mod_two_pow, Nat.testBit_shiftLeft, Nat.testBit_shiftRight, Nat.testBit_two_pow_sub_one, Nat.testBit_two_pow_sub_one, mask_bit (by omega), Bool.eq_iff_iff]
  simp; omega
theorem row_int (l r : Int) (h0 : 0 ≤ l) (h1 : l < r) (h2 : r ≤ 64) :
    bits BinOp.and IntKind.u64 (IntKind.u64.wrap (18446744073709551615 * 2 ^ l.toNat)) (18446744073709551615 / 2 ^ (64 - r).toNat) = ((mask l.toNat r.toNat : Nat) : Int) := by
  have e1 : IntKind.u64.wrap (18446744073709551615 * 2 ^ l.toNat) = ((18446744073709551615 * 2 ^ l.toNat % 18446744073709551616 : Nat) : Int) := by rw [IntKind.wrap_u64]; simp
  have e2 : (18446744073709551615 / 2 ^ (64 - r).toNat : Int) = ((18446744073709551615 / 2 ^ (64 - r.toNat) : Nat) : Int) := by
    rw [show (64 - r).toNat = 64 - r.toNat by omega]; simp
  rw [e1, e2, u64_and_nat _ _ (Nat.mod_lt _ (by decide)) (Nat.lt_of_le_of_lt (Nat.div_le_self _ _) (by decide)), row_nat _ _ (by omega) (by omega)]

/-! ### intervals of a row -/
structure Iv where
  l : Nat
  r : Nat
  lt : l < r
  le : r ≤ 64
theorem Iv.ext {a b : Iv} (h1 : a.l = b.l) (h2 : a.r = b.r) : a = b := by cases a; cases b; cases h1; cases h2; rfl
def Iv.m (q : Iv) : Nat := mask q.l q.r
theorem Iv.m_lt (q : Iv) : q.m < 18446744073709551616 := mask_lt q.le
def starts (p l : Nat) : Bool := p.testBit l && (l == 0 || !p.testBit (l - 1))
def endF (p : Nat) : Nat → Nat → Nat
  | 0, i => i
  | f + 1, i => if p.testBit i then endF p f (i + 1) else i
def endOf (p l : Nat) : Nat := endF p (64 - l) l
theorem endF_spec (p : Nat) : ∀ f i, i ≤ endF p f i ∧ endF p f i ≤ i + f ∧ (∀ j, i ≤ j → j < endF p f i → p.testBit j = true) ∧ (endF p f i = i + f ∨ p.testBit (endF p f i) = false)
  | 0, i => ⟨Nat.le_refl _, Nat.le_refl _, fun j h1 h2 => by simp only [endF] at h2; omega, .inl rfl⟩
  | f + 1, i => by
    by_cases h : p.testBit i = true
    · obtain ⟨h1, h2, h3, h4⟩ := endF_spec p f (i + 1)
      simp only [endF, h, if_true]
      refine ⟨by omega, by omega, fun j hj1 hj2 => ?_, by rcases h4 with h4 | h4; exact .inl (by omega); exact .inr h4⟩
      by_cases hji : j = i
      · subst hji; exact h
      · exact h3 j (by omega) hj2
    · have h' : p.testBit i = false := by simpa using h
      simp only [endF, h', if_neg Bool.false_ne_true]
      exact ⟨Nat.le_refl _, by omega, fun j h1 h2 => by omega, .inr trivial⟩
theorem endOf_le (p : Nat) {l : Nat} (h : l ≤ 64) : endOf p l ≤ 64 := by have := (endF_spec p (64 - l) l).2.1; unfold endOf; omega
theorem endOf_ge (p l : Nat) : l ≤ endOf p l := (endF_spec p (64 - l) l).1
theorem endOf_bits (p l : Nat) : ∀ j, l ≤ j → j < endOf p l → p.testBit j = true := (endF_spec p (64 - l) l).2.2.1
theorem endOf_stop {p l : Nat} (hp : p < 18446744073709551616) (hl : l ≤ 64) : p.testBit (endOf p l) = false := by
  rcases (endF_spec p (64 - l) l).2.2.2 with h | h
  · rw [endOf, h, show l + (64 - l) = 64 by omega]; exact Nat.testBit_lt_two_pow hp
  · exact h
theorem endOf_unique {p l r : Nat} (hp : p < 18446744073709551616) (hlr : l ≤ r) (hr : r ≤ 64) (hb : ∀ j, l ≤ j → j < r → p.testBit j = true) (hs : p.testBit r = false) : endOf p l = r := by
  have h1 := endOf_bits p l
  have h2 := endOf_stop hp (l := l) (by omega)
  have h3 := endOf_ge p l
  rcases Nat.lt_trichotomy (endOf p l) r with h | h | h
  · rw [hb _ h3 h] at h2; cases h2
  · exact h
  · rw [h1 r hlr h] at hs; cases hs
theorem starts_bit {p l : Nat} (h : starts p l = true) : p.testBit l = true := by simp only [starts, Bool.and_eq_true] at h; exact h.1
theorem starts_lt {p l : Nat} (hl : l < 64) (h : starts p l = true) : l < endOf p l := by
  have := starts_bit h
  unfold endOf
  rw [show 64 - l = (64 - l - 1) + 1 by omega, endF, if_pos this]
  have := (endF_spec p (64 - l - 1) (l + 1)).1
  omega
def ivAt (p l : Nat) : Option Iv := if h : l < 64 ∧ starts p l = true then some ⟨l, endOf p l, starts_lt h.1 h.2, endOf_le p (Nat.le_of_lt h.1)⟩ else none
def ivsTo (p n : Nat) : List Iv := (List.range n).filterMap (ivAt p)
def ivs (p : Nat) : List Iv := ivsTo p 64
def hasIv (p : Nat) (q : Iv) : Bool := starts p q.l && endOf p q.l == q.r
theorem ivsTo_zero (p : Nat) : ivsTo p 0 = [] := rfl
theorem ivsTo_succ (p n : Nat) : ivsTo p (n + 1) = ivsTo p n ++ (ivAt p n).toList := by
  simp only [ivsTo, List.range_succ, List.filterMap_append]
  cases h : ivAt p n <;> simp [h]
theorem ivsTo_skip {p m n : Nat} (hmn : m ≤ n) (h : ∀ i, m ≤ i → i < n → ivAt p i = none) : ivsTo p n = ivsTo p m := by
  induction n with
  | zero => rw [show m = 0 by omega]
  | succ n ih =>
    by_cases he : m = n + 1
    · rw [he]
    · rw [ivsTo_succ, h n (by omega) (by omega), ih (by omega) (fun i h1 h2 => h i h1 (by omega))]; simp
theorem ivAt_none {p i : Nat} (h : starts p i = false) : ivAt p i = none := by simp [ivAt, h]
theorem ivAt_some {p l : Nat} (hl : l < 64) (h : starts p l = true) : ivAt p l = some ⟨l, endOf p l, starts_lt hl h, endOf_le p (Nat.le_of_lt hl)⟩ := by simp [ivAt, hl, h]
theorem starts_inner {p l i : Nat} (h : ∀ j, l ≤ j → j < i → p.testBit j = true) (hi : l < i) : starts p i = false := by
  have : p.testBit (i - 1) = true := h _ (by omega) (by omega)
  simp [starts, this]; intro _; omega
/-- behind the interval that starts at l -/
theorem ivsTo_end {p l : Nat} (hl : l < 64) (h : starts p l = true) :
    ivsTo p (endOf p l) = ivsTo p l ++ [⟨l, endOf p l, starts_lt hl h, endOf_le p (Nat.le_of_lt hl)⟩] := by
  rw [ivsTo_skip (m := l + 1) (starts_lt hl h) (fun i h1 h2 => ivAt_none (starts_inner (l := l) (fun j a b => endOf_bits p l j a (by omega)) (by omega))), ivsTo_succ, ivAt_some hl h]
  rfl
theorem mem_ivs {p : Nat} {q : Iv} : q ∈ ivs p ↔ hasIv p q = true := by
  unfold ivs ivsTo
  rw [List.mem_filterMap]
  constructor
  · rintro ⟨l, hl, h⟩
    unfold ivAt at h
    split at h
    · rename_i hh; cases h; simp [hasIv, hh.2]
    · cases h
  · intro h
    simp only [hasIv, Bool.and_eq_true, beq_iff_eq] at h
    refine ⟨q.l, by have := q.lt; have := q.le; simp; omega, ?_⟩
    rw [ivAt_some (by have := q.lt; have := q.le; omega) h.1]
    exact congrArg some (Iv.ext rfl h.2)
/-- 'has' of package area -/
theorem has_nat {p : Nat} (hp : p < 18446744073709551616) (q : Iv) : (p &&& ((q.m ||| q.m * 2 % 18446744073709551616) ||| q.m / 2) = q.m) ↔ hasIv p q = true := by
  have hlt := q.lt; have hle := q.le
  have e2 : q.m * 2 % 18446744073709551616 = (q.m <<< 1) % 2 ^ 64 := by rw [Nat.shiftLeft_eq]
  have e3 : q.m / 2 = q.m >>> 1 := by rw [Nat.shiftRight_eq_div_pow]
  have hm : ∀ i, q.m.testBit i = decide (q.l ≤ i ∧ i < q.r) := mask_bit (by omega)
  have key : ∀ i, (p &&& ((q.m ||| q.m * 2 % 18446744073709551616) ||| q.m / 2)).testBit i = (p.testBit i && decide (i < 64 ∧ q.l ≤ i + 1 ∧ i ≤ q.r)) := by
    intro i
    rw [e2, e3, Nat.testBit_and, Nat.testBit_or, Nat.testBit_or, Nat.testBit_mod_two_pow, Nat.testBit_shiftLeft, Nat.testBit_shiftRight, hm, hm, hm]
    by_cases hpi : p.testBit i = true
    · have := bit_lt hp hpi
      rw [hpi, Bool.true_and, Bool.true_and, Bool.eq_iff_iff]; simp; omega
    · have : p.testBit i = false := by simpa using hpi
      rw [this]; rfl
  constructor
  · intro h
    have hb : ∀ i, (p.testBit i && decide (i < 64 ∧ q.l ≤ i + 1 ∧ i ≤ q.r)) = decide (q.l ≤ i ∧ i < q.r) := fun i => by rw [← key, h, hm]
    have h1 : ∀ j, q.l ≤ j → j < q.r → p.testBit j = true := fun j a b => by
      have := hb j
      rw [show decide (q.l ≤ j ∧ j < q.r) = true by simp [a, b]] at this
      simp only [Bool.and_eq_true] at this
      exact this.1
    have h2 : p.testBit q.r = false := by
      by_cases hr : q.r = 64
      · rw [hr]; exact Nat.testBit_lt_two_pow hp
      · have := hb q.r
        rw [show decide (q.l ≤ q.r ∧ q.r < q.r) = false by simp, show decide (q.r < 64 ∧ q.l ≤ q.r + 1 ∧ q.r ≤ q.r) = true by simp; omega, Bool.and_true] at this
        exact this
    have h3 : starts p q.l = true := by
      have := hb (q.l - 1)
      unfold starts
      rw [h1 q.l (by omega) (by omega)]
      by_cases h0 : q.l = 0
      · simp [h0]
      · rw [show decide (q.l ≤ q.l - 1 ∧ q.l - 1 < q.r) = false by simp; omega, show decide (q.l - 1 < 64 ∧ q.l ≤ q.l - 1 + 1 ∧ q.l - 1 ≤ q.r) = true by simp; omega, Bool.and_true] at this
        simp [this]
    simp only [hasIv, h3, Bool.true_and, beq_iff_eq]
    exact endOf_unique hp (by omega) hle h1 h2
  · intro h
    simp only [hasIv, Bool.and_eq_true, beq_iff_eq] at h
    obtain ⟨hs, he⟩ := h
    apply Nat.eq_of_testBit_eq
    intro i
    rw [key, hm]
    have hbits := endOf_bits p q.l
    have hstop := endOf_stop hp (l := q.l) (by omega)
    rw [he] at hbits hstop
    rw [Bool.eq_iff_iff]
    simp only [Bool.and_eq_true, decide_eq_true_eq]
    constructor
    · rintro ⟨ha, hb, hc, hd⟩
      have h1 : i ≠ q.r := by rintro rfl; rw [hstop] at ha; cases ha
      have h2 : q.l ≤ i := by
        rcases Nat.lt_or_ge i q.l with h' | h'
        · exfalso
          simp only [starts, Bool.and_eq_true, Bool.or_eq_true, beq_iff_eq, Bool.not_eq_true'] at hs
          rcases hs.2 with h0 | h0
          · omega
          · rw [show q.l - 1 = i by omega, ha] at h0; cases h0
        · exact h'
      exact ⟨h2, by omega⟩
    · rintro ⟨ha, hb⟩
      exact ⟨hbits i ha hb, by omega, by omega, by omega⟩

/-! ### the lowest interval of a row by adding -/
/-- the places of p from pos on -/
def restFrom (p pos : Nat) : Nat := p / 2 ^ pos * 2 ^ pos
theorem restFrom_bit (p pos i : Nat) : (restFrom p pos).testBit i = (decide (pos ≤ i) && p.testBit i) := by
  have h : restFrom p pos = 2 ^ pos * (p >>> pos) := by rw [restFrom, Nat.shiftRight_eq_div_pow, Nat.mul_comm]
  rw [h, Nat.testBit_two_pow_mul, Nat.testBit_shiftRight]
  by_cases hi : pos ≤ i
  · simp [hi, show pos + (i - pos) = i by omega]
  · simp [hi]
theorem restFrom_lt {p : Nat} (hp : p < 18446744073709551616) (pos : Nat) : restFrom p pos < 18446744073709551616 := Nat.lt_of_le_of_lt (Nat.div_mul_le_self _ _) hp
theorem restFrom_zero (p : Nat) : restFrom p 0 = p := by simp [restFrom]
def isoN (p : Nat) : Nat := p &&& (18446744073709551615 - (p + (p &&& (18446744073709551616 - p) % 18446744073709551616)) % 18446744073709551616)
/-- a number that is not 0 has a lowest place -/
theorem low_ex {p : Nat} (h : p ≠ 0) : ∃ l, p.testBit l = true ∧ ∀ i, i < l → p.testBit i = false := by
  obtain ⟨i, hi⟩ := Nat.exists_testBit_of_ne_zero h
  induction i using Nat.strongRecOn with
  | _ i ih =>
    by_cases hh : ∃ j, j < i ∧ p.testBit j = true
    · obtain ⟨j, hj, hb⟩ := hh; exact ih j hj hb
    · exact ⟨i, hi, fun j hj => by simpa using fun hb => hh ⟨j, hj, hb⟩⟩
theorem low_form {p l : Nat} (hb : p.testBit l = true) (hl : ∀ i, i < l → p.testBit i = false) : ∃ m, p = 2 ^ l * (2 * m + 1) := by
  have h1 : p % 2 ^ l = 0 := by
    apply Nat.eq_of_testBit_eq; intro i
    rw [Nat.testBit_mod_two_pow]
    by_cases h : i < l
    · simp [h, hl i h]
    · simp [h]
  have h2 : p = 2 ^ l * (p / 2 ^ l) := by have := Nat.div_add_mod p (2 ^ l); omega
  have h3 : (p / 2 ^ l) % 2 = 1 := by
    have := hb
    rw [Nat.testBit, Nat.shiftRight_eq_div_pow] at this
    simpa [Nat.and_comm 1, Nat.and_one_is_mod] using this
  exact ⟨p / 2 ^ l / 2, by rw [show 2 * (p / 2 ^ l / 2) + 1 = p / 2 ^ l by omega]; exact h2⟩
theorem low_and {p l : Nat} (hp : p < 18446744073709551616) (hb : p.testBit l = true) (hl : ∀ i, i < l → p.testBit i = false) : p &&& (18446744073709551616 - p) % 18446744073709551616 = 2 ^ l := by
  have h0 : 0 < p := by rcases Nat.eq_zero_or_pos p with rfl | h; simp at hb; exact h
  have hl64 := bit_lt hp hb
  rw [Nat.mod_eq_of_lt (by omega)]
  have e : 18446744073709551616 - p = 2 ^ 64 - ((p - 1) + 1) := by simp; omega
  obtain ⟨m, hm⟩ := low_form hb hl
  have hp1 : p - 1 = 2 ^ l * (2 * m) + (2 ^ l - 1) := by
    have := Nat.two_pow_pos l
    rw [Nat.mul_add] at hm; omega
  apply Nat.eq_of_testBit_eq; intro i
  rw [Nat.testBit_and, e, Nat.testBit_two_pow_sub_succ (by simp; omega), hp1, Nat.testBit_two_pow_mul_add _ (by have := Nat.two_pow_pos l; omega), Nat.testBit_two_pow_sub_one, Nat.testBit_two_pow]
  rcases Nat.lt_trichotomy i l with h | h | h
  · rw [hl i h]; simp; omega
  · subst h; simp [hb, hl64]
  · rw [if_neg (by omega), show decide (l = i) = false by simp; omega]
    have e2 : (2 * m).testBit (i - l) = p.testBit i := by
      rw [hm, Nat.testBit_two_pow_mul]
      simp only [show l ≤ i by omega, decide_true, Bool.true_and]
      obtain ⟨d, hd⟩ : ∃ d, i - l = d + 1 := ⟨i - l - 1, by omega⟩
      rw [hd, Nat.testBit_succ, Nat.testBit_succ]
      congr 1; omega
    rw [e2]
    cases p.testBit i <;> simp
theorem iso_mask {p l : Nat} (hp : p < 18446744073709551616) (hb : p.testBit l = true) (hl : ∀ i, i < l → p.testBit i = false) : isoN p = mask l (endOf p l) := by
  have hl64 := bit_lt hp hb
  have hend := endOf_bits p l
  have hstop := endOf_stop hp (l := l) (by omega)
  have hle := endOf_le p (l := l) (by omega)
  have hge := endOf_ge p l
  obtain ⟨r, hr⟩ : ∃ r, r = endOf p l := ⟨_, rfl⟩
  rw [← hr] at hend hstop hle hge ⊢
  -- p = mask l r + 2^(r+1) * m
  have hsplit : p = 2 ^ (r + 1) * (p / 2 ^ (r + 1)) + mask l r := by
    have h1 : p % 2 ^ (r + 1) = mask l r := by
      apply Nat.eq_of_testBit_eq; intro i
      rw [Nat.testBit_mod_two_pow, mask_bit hge]
      rcases Nat.lt_or_ge i l with h | h
      · rw [hl i h]; simp; omega
      · rcases Nat.lt_trichotomy i r with h2 | h2 | h2
        · rw [hend i h h2, dt (by omega), dt ⟨h, h2⟩]; rfl
        · subst h2; rw [hstop]; simp
        · rw [df (p := i < r + 1) (by omega), df (by omega)]; rfl
    have := Nat.div_add_mod p (2 ^ (r + 1))
    omega
  have hsum : p + 2 ^ l = 2 ^ (r + 1) * (p / 2 ^ (r + 1)) + 2 ^ r := by
    have h1 : mask l r + 2 ^ l = 2 ^ r := by
      unfold mask
      have : 2 ^ l ≤ 2 ^ r := Nat.pow_le_pow_right (by omega) hge
      omega
    omega
  unfold isoN
  rw [low_and hp hb hl, hsum]
  apply eq_of_bits (and_lt hp) (mask_lt hle)
  intro i hi
  rw [Nat.testBit_and, mask_bit hge]
  have e : ∀ x : Nat, 18446744073709551615 - x % 18446744073709551616 = 18446744073709551615 - x % 18446744073709551616 := fun _ => rfl
  rw [compl_bit hi, Nat.testBit_two_pow_mul_add _ (Nat.pow_lt_pow_right (by omega) (by omega)), Nat.testBit_two_pow]
  rcases Nat.lt_or_ge i l with h | h
  · rw [hl i h]; simp; omega
  · rcases Nat.lt_trichotomy i r with h2 | h2 | h2
    · rw [hend i h h2, if_pos (by omega), df (p := r = i) (by omega), dt ⟨h, h2⟩]; rfl
    · subst h2; rw [hstop]; simp
    · rw [if_neg (by omega)]
      have h3 : (p / 2 ^ (r + 1)).testBit (i - (r + 1)) = p.testBit i := by
        rw [← Nat.shiftRight_eq_div_pow, Nat.testBit_shiftRight, show r + 1 + (i - (r + 1)) = i by omega]
      rw [h3, df (p := l ≤ i ∧ i < r) (by omega)]; cases p.testBit i <;> rfl

/-- one step through a row: from a place behind all intervals that have come -/
theorem iso_step {p pos : Nat} (hp : p < 18446744073709551616) (hpos : pos = 0 ∨ p.testBit pos = false) (hne : restFrom p pos ≠ 0) :
    ∃ q : Iv, isoN (restFrom p pos) = q.m ∧ ivsTo p q.r = ivsTo p pos ++ [q] ∧ hasIv p q = true ∧ p.testBit q.r = false ∧ pos < q.r ∧
      (restFrom p pos) &&& (18446744073709551615 - q.m) = restFrom p q.r ∧ restFrom p q.r < restFrom p pos := by
  obtain ⟨l, hl1, hl2⟩ := low_ex hne
  have hb := hl1
  rw [restFrom_bit] at hb
  simp only [Bool.and_eq_true, decide_eq_true_eq] at hb
  have hl64 := bit_lt hp hb.2
  have hnone : ∀ i, pos ≤ i → i < l → p.testBit i = false := fun i h1 h2 => by
    have := hl2 i h2; rw [restFrom_bit] at this; simpa [h1] using this
  have hst : starts p l = true := by
    unfold starts; rw [hb.2]
    by_cases h0 : l = 0
    · simp [h0]
    · have : p.testBit (l - 1) = false := by
        rcases hpos with h | h
        · exact hnone _ (by omega) (by omega)
        · have : pos ≠ l := by rintro rfl; rw [hb.2] at h; cases h
          exact hnone _ (by omega) (by omega)
      simp [this]
  have hend : endOf (restFrom p pos) l = endOf p l := by
    refine endOf_unique (restFrom_lt hp pos) (endOf_ge p l) (endOf_le p (by omega)) (fun j h1 h2 => ?_) ?_
    · rw [restFrom_bit, endOf_bits p l j h1 h2]; simp; omega
    · rw [restFrom_bit, endOf_stop hp (by omega)]; simp
  refine ⟨⟨l, endOf p l, starts_lt hl64 hst, endOf_le p (by omega)⟩, ?_, ?_, by simp [hasIv, hst], endOf_stop hp (by omega), by have := starts_lt hl64 hst; show pos < endOf p l; omega, ?_, ?_⟩
  · rw [iso_mask (restFrom_lt hp pos) hl1 hl2, hend]; rfl
  · show ivsTo p (endOf p l) = _
    rw [ivsTo_end hl64 hst, ivsTo_skip hb.1 (fun i h1 h2 => ivAt_none (by simp [starts, hnone i h1 h2]))]
  · have hm : mask l (endOf p l) < 18446744073709551616 := mask_lt (endOf_le p (by omega))
    apply eq_of_bits (and_lt (restFrom_lt hp _)) (restFrom_lt hp _)
    intro i hi
    have hc := compl_bit (b := mask l (endOf p l)) hi
    rw [Nat.mod_eq_of_lt hm] at hc
    show ((restFrom p pos) &&& (18446744073709551615 - mask l (endOf p l))).testBit i = _
    rw [Nat.testBit_and, hc, mask_bit (endOf_ge p l), restFrom_bit, restFrom_bit]
    rcases Nat.lt_or_ge i (endOf p l) with h | h
    · rcases Nat.lt_or_ge i l with h2 | h2
      · rw [df (p := endOf p l ≤ i) (by omega)]
        by_cases h3 : pos ≤ i
        · rw [hnone i h3 h2]; simp
        · rw [df h3]; rfl
      · rw [df (p := endOf p l ≤ i) (by omega), dt (p := l ≤ i ∧ i < endOf p l) ⟨h2, h⟩]; simp
    · have := endOf_ge p l
      rw [dt (p := endOf p l ≤ i) h, dt (p := pos ≤ i) (by omega), df (p := l ≤ i ∧ i < endOf p l) (by omega)]; simp
  · show restFrom p (endOf p l) < restFrom p pos
    have hlt := starts_lt hl64 hst
    refine Nat.lt_of_le_of_ne ?_ (fun e => ?_)
    · have : restFrom p (endOf p l) = restFrom p pos &&& restFrom p (endOf p l) := by
        apply Nat.eq_of_testBit_eq; intro i
        rw [Nat.testBit_and, restFrom_bit, restFrom_bit]
        by_cases h : endOf p l ≤ i
        · rw [dt h, dt (p := pos ≤ i) (by omega)]; simp
        · rw [df h]; simp
      rw [this]; exact Nat.and_le_left
    · have h1 := hl1
      rw [← e, restFrom_bit, df (p := endOf p l ≤ l) (by omega)] at h1
      cases h1
theorem ivs_done {p pos : Nat} (h64 : pos ≤ 64) (h0 : restFrom p pos = 0) : ivsTo p pos = ivs p := by
  unfold ivs
  rw [ivsTo_skip h64]
  intro i h1 h2
  apply ivAt_none
  have : (restFrom p pos).testBit i = false := by rw [h0]; simp
  rw [restFrom_bit] at this
  have : p.testBit i = false := by simpa [h1] using this
  simp [starts, this]

/-! ### the walk's forms -/
theorem u64wrap_nat (n : Nat) : IntKind.u64.wrap (n : Int) = ((n % 18446744073709551616 : Nat) : Int) := by rw [IntKind.wrap_u64]; omega
theorem u64wrap_neg {p : Nat} (hp : p < 18446744073709551616) : IntKind.u64.wrap (-(p : Int)) = (((18446744073709551616 - p) % 18446744073709551616 : Nat) : Int) := by rw [IntKind.wrap_u64]; omega
theorem has_int {p : Nat} (hp : p < 18446744073709551616) (q : Iv) :
    (bits BinOp.and IntKind.u64 (p : Int) (bits BinOp.or IntKind.u64 (bits BinOp.or IntKind.u64 (q.m : Int) (IntKind.u64.wrap ((q.m : Int) * 2))) ((q.m : Int) / 2)) == (q.m : Int)) = hasIv p q := by
  have hm : q.m < 18446744073709551616 := mask_lt q.le
  have e1 : IntKind.u64.wrap ((q.m : Int) * 2) = ((q.m * 2 % 18446744073709551616 : Nat) : Int) := by rw [← u64wrap_nat]; simp
  have e2 : ((q.m : Int) / 2) = ((q.m / 2 : Nat) : Int) := by simp
  rw [e1, e2, u64_or_nat _ _ hm (Nat.mod_lt _ (by decide)), u64_or_nat _ _ (or_lt hm (Nat.mod_lt _ (by decide))) (by omega), u64_and_nat _ _ hp (or_lt (or_lt hm (Nat.mod_lt _ (by decide))) (by omega)), Bool.eq_iff_iff, beq_iff_eq, ← has_nat hp]
  exact Int.ofNat_inj

theorem iso_int {p : Nat} (hp : p < 18446744073709551616) :
    bits BinOp.andNot IntKind.u64 (p : Int) (IntKind.u64.wrap ((p : Int) + bits BinOp.and IntKind.u64 (p : Int) (IntKind.u64.wrap (-(p : Int))))) = ((isoN p : Nat) : Int) := by
  rw [u64wrap_neg hp, u64_and_nat _ _ hp (Nat.mod_lt _ (by decide)), show ((p : Int) + ((p &&& (18446744073709551616 - p) % 18446744073709551616 : Nat) : Int)) = ((p + (p &&& (18446744073709551616 - p) % 18446744073709551616) : Nat) : Int) by simp,
    u64wrap_nat, u64_andNot_nat _ _ hp (Nat.mod_lt _ (by decide))]
  rfl

/-! ### rectangles -/
structure Rct where
  l : Int
  r : Int
  lo : Int
  hi : Int
  deriving DecidableEq
def okR (q : Rct) : Bool := decide (0 ≤ q.l ∧ q.l < q.r ∧ q.r ≤ 64 ∧ 0 ≤ q.lo ∧ q.lo < q.hi ∧ q.hi ≤ 64)
theorem okR_parts {q : Rct} (h : okR q = true) : 0 ≤ q.l ∧ q.l < q.r ∧ q.r ≤ 64 ∧ 0 ≤ q.lo ∧ q.lo < q.hi ∧ q.hi ≤ 64 := by simpa [okR] using h
abbrev Grd := Nat → Nat
def Grd.ok (g : Grd) : Prop := ∀ i, g i < 18446744073709551616
def g0 : Grd := fun _ => 0
theorem g0_ok : g0.ok := fun _ => by show 0 < 18446744073709551616; decide
def fillTo (g : Grd) (q : Rct) (k : Nat) : Grd := fun y => if q.lo ≤ y ∧ (y : Int) < k then g y ||| mask q.l.toNat q.r.toNat else g y
def fillG (g : Grd) (q : Rct) : Grd := fillTo g q q.hi.toNat
theorem fillTo_start (g : Grd) (q : Rct) (h : 0 ≤ q.lo) : fillTo g q q.lo.toNat = g := by
  funext y; unfold fillTo; rw [if_neg (by omega)]
theorem fillTo_ok {g : Grd} (hg : g.ok) {q : Rct} (h : q.r ≤ 64) (k : Nat) : (fillTo g q k).ok := fun i => by
  unfold fillTo; split
  · exact or_lt (hg i) (mask_lt (by omega))
  · exact hg i
def setL (l : List Rct) : Grd := l.foldl fillG g0
theorem setL_snoc (l : List Rct) (q : Rct) : setL (l ++ [q]) = fillG (setL l) q := by simp [setL]
theorem setL_ok {l : List Rct} (h : l.all okR = true) : (setL l).ok := by
  suffices H : ∀ g : Grd, g.ok → Grd.ok (l.foldl fillG g) from H g0 g0_ok
  induction l with
  | nil => intro g hg; exact hg
  | cons q l ih =>
    intro g hg
    simp only [List.all_cons, Bool.and_eq_true] at h
    exact ih h.2 _ (fillTo_ok hg (okR_parts h.1).2.2.1 _)
def highF (g : Grd) (q : Iv) : Nat → Nat → Nat
  | 0, b => b
  | f + 1, b => if hasIv (g b) q then highF g q f (b + 1) else b
def highOf (g : Grd) (q : Iv) (y : Nat) : Nat := highF g q (63 - y) (y + 1)
def rectAt (g : Grd) (y : Nat) (q : Iv) : Option Rct := if 0 < y ∧ hasIv (g (y - 1)) q = true then none else some ⟨q.l, q.r, y, highOf g q y⟩
def rowRects (g : Grd) (y : Nat) : List Rct := (ivs (g y)).filterMap (rectAt g y)
def rectsTo (g : Grd) (n : Nat) : List Rct := (List.range n).flatMap (rowRects g)
def rectsG (g : Grd) : List Rct := rectsTo g 64
theorem rectsTo_succ (g : Grd) (n : Nat) : rectsTo g (n + 1) = rectsTo g n ++ rowRects g n := by simp [rectsTo, List.range_succ]
theorem ivsTo_len (p n : Nat) : (ivsTo p n).length ≤ n := by
  unfold ivsTo; exact Nat.le_trans (List.length_filterMap_le _ _) (by simp)
theorem rowRects_len (g : Grd) (y : Nat) : (rowRects g y).length ≤ 64 := Nat.le_trans (List.length_filterMap_le _ _) (ivsTo_len _ _)
theorem rectsTo_len (g : Grd) (n : Nat) : (rectsTo g n).length ≤ 64 * n := by
  induction n with
  | zero => simp [rectsTo]
  | succ n ih => rw [rectsTo_succ, List.length_append]; have := rowRects_len g n; omega
end Go.Proofs.YtplamgmmncenjaaDoorR
