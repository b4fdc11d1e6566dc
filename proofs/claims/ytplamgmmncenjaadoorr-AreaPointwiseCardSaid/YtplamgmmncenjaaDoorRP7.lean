/- Plain: areas that grow. No program stands here. -/
import Derived.Test.YtplamgmmncenjaaDoorRP6
namespace Go.Proofs.YtplamgmmncenjaaDoorR
open Go
def nearB (d y x j i : Nat) : Bool := decide (j ≤ y + d ∧ y ≤ j + d ∧ i ≤ x + d ∧ x ≤ i + d)
def growG (g : Grd) (d : Nat) : Grd := toG fun y x => (List.range 64).any fun j => (List.range 64).any fun i => nearB d y x j i && (g j).testBit i
theorem growG_ok (g : Grd) (d : Nat) : (growG g d).ok := toG_ok _
theorem growG_bit (g : Grd) (d y x : Nat) : (growG g d y).testBit x = true ↔ x < 64 ∧ ∃ j i, j < 64 ∧ i < 64 ∧ (j ≤ y + d ∧ y ≤ j + d ∧ i ≤ x + d ∧ x ≤ i + d) ∧ (g j).testBit i = true := by
  unfold growG
  rw [toG_bit]
  simp only [Bool.and_eq_true, decide_eq_true_eq, List.any_eq_true, List.mem_range, nearB]
  constructor
  · rintro ⟨h, j, hj, i, hi, h1, h2⟩; exact ⟨h, j, i, hj, hi, h1, h2⟩
  · rintro ⟨h, j, i, hj, hi, h1, h2⟩; exact ⟨h, j, hj, i, hi, h1, h2⟩
theorem eq64_iff {g h : Grd} (hg : g.ok) (hh : h.ok) (e : ∀ y x, y < 64 → x < 64 → ((g y).testBit x = true ↔ (h y).testBit x = true)) : Eq64 g h := Eq64.of_bits hg hh (fun y x hy hx => Bool.eq_iff_iff.2 (e y x hy hx))
theorem near_ex (y : Nat) (lo hi d : Int) (h0 : 0 ≤ lo) (h1 : lo < hi) (hd : 0 ≤ d) (h2 : lo - d ≤ y) (h3 : (y : Int) < hi + d) : ∃ j : Nat, lo ≤ j ∧ (j : Int) < hi ∧ j ≤ y + d.toNat ∧ y ≤ j + d.toNat := by
  by_cases c1 : (y : Int) < lo
  · exact ⟨lo.toNat, by omega, by omega, by omega, by omega⟩
  · by_cases c2 : (y : Int) < hi
    · exact ⟨y, by omega, by omega, by omega, by omega⟩
    · exact ⟨(hi - 1).toNat, by omega, by omega, by omega, by omega⟩
/-- what Grow fills -/
theorem grow_fill {a : List Rct} {g : Grd} (k : Ar a g) {d : Int} (h0 : 0 ≤ d) : Eq64 (setL (a.map (growR d))) (growG g d.toNat) := by
  have hm := allOk_map k.allOk h0
  refine eq64_iff (setL_ok hm) (growG_ok _ _) (fun y x hy hx => ?_)
  rw [setL_bit hm, growG_bit, List.any_eq_true]
  constructor
  · rintro ⟨q', hq', hin⟩
    obtain ⟨q, hq, rfl⟩ := List.mem_map.1 hq'
    have hok : okR q = true := by have := k.allOk; unfold allOk at this; rw [List.all_eq_true] at this; exact this q hq
    have hp := okR_parts hok
    rw [inR_iff] at hin
    simp only [growR] at hin
    obtain ⟨j, j1, j2, j3, j4⟩ := near_ex y q.lo q.hi d hp.2.2.2.1 hp.2.2.2.2.1 h0 (by omega) (by omega)
    obtain ⟨i, i1, i2, i3, i4⟩ := near_ex x q.l q.r d hp.1 hp.2.1 h0 (by omega) (by omega)
    refine ⟨hx, j, i, by omega, by omega, ⟨j3, j4, i3, i4⟩, ?_⟩
    rw [← k.any (show j < 64 by omega), List.any_eq_true]
    exact ⟨q, hq, (inR_iff _ _ _).2 ⟨i1, i2, j1, j2⟩⟩
  · rintro ⟨_, j, i, hj, hi, hn, hb⟩
    rw [← k.any hj, List.any_eq_true] at hb
    obtain ⟨q, hq, hin⟩ := hb
    refine ⟨growR d q, List.mem_map.2 ⟨q, hq, rfl⟩, ?_⟩
    rw [inR_iff] at *
    simp only [growR]
    omega
theorem Ar.grow {a : List Rct} {g : Grd} (k : Ar a g) {d : Int} (h0 : 0 ≤ d) (h1 : d ≤ 64) (o : Ar (rectsG (growG g d.toNat)) (growG g d.toNat)) : growE a d = 0 ∧ Ar (growL a d) (growG g d.toNat) := by
  have e := areaL_congr (grow_fill k h0)
  have e2 := areaL_of o.len
  unfold growE growL
  rw [k.valid, dt ⟨h0, h1⟩, e.1, e.2, e2.1, e2.2]
  exact ⟨rfl, o⟩
/-- near -/
theorem Ar.near {a : List Rct} {g : Grd} (k : Ar a g) {d : Int} (h0 : 0 ≤ d) {y x : Nat} (hy : y < 64) (hx : x < 64) : a.any (nearR x y d) = (growG g d.toNat y).testBit x := by
  rw [← grow_fill k h0 y hy, setL_bit (allOk_map k.allOk h0), List.any_map]
  have : ∀ q : Rct, nearR x y d q = inR x y (growR d q) := fun q => by
    rw [Bool.eq_iff_iff, inR_iff]
    simp only [nearR, growR, Bool.and_eq_true, decide_eq_true_eq]
    omega
  rw [List.any_congr rfl (fun q => this q)]; rfl
/-! ### counting -/
theorem first_change {g : Grd} {L R Y : List Nat} (h : Few L R Y g) : ∀ y, y < 64 → g y ≠ 0 → ∃ y0, y0 ≤ y ∧ y0 ∈ Y
  | 0, hy, hn => ⟨0, Nat.le_refl _, by
      by_cases hm : 0 ∈ Y
      · exact hm
      · exact absurd (h.ch 0 hy hm) hn⟩
  | y + 1, hy, hn => by
    by_cases hm : y + 1 ∈ Y
    · exact ⟨y + 1, Nat.le_refl _, hm⟩
    · have := h.ch (y + 1) hy hm
      rw [if_neg (by omega)] at this
      obtain ⟨y0, h1, h2⟩ := first_change h y (by omega) (fun e => hn (this.trans e))
      exact ⟨y0, by omega, h2⟩
theorem first_start {p : Nat} : ∀ x, p.testBit x = true → ∃ l, l ≤ x ∧ starts p l = true
  | 0, h => ⟨0, Nat.le_refl _, (starts_iff _ _).2 ⟨h, .inl rfl⟩⟩
  | x + 1, h => by
    by_cases h' : p.testBit x = true
    · obtain ⟨l, h1, h2⟩ := first_start x h'
      exact ⟨l, by omega, h2⟩
    · exact ⟨x + 1, Nat.le_refl _, (starts_iff _ _).2 ⟨h, .inr (by simpa using h')⟩⟩
theorem last_end {p : Nat} (hp : p < 18446744073709551616) {x : Nat} (h : p.testBit x = true) : ∃ r, x < r ∧ r ≤ 64 ∧ endsAt p r = true := by
  obtain ⟨q, h1, h2, h3⟩ := iv_ex hp h
  exact ⟨q.r, h3, q.le, hasIv_end hp h1⟩
theorem bool_not {b : Bool} (h : ¬ b = true) : b = false := by simpa using h
theorem Few.grow {L R Y : List Nat} {g : Grd} (h : Few L R Y g) (d : Nat) : Few (L.map (· - d)) (R.map fun r => min (r + d) 64) (Y.map (· - d) ++ Y.map (· + d)) (growG g d) := by
  refine ⟨growG_ok _ _, fun y x hy hs => ?_, fun y x hy hs => ?_, fun y hy hn => ?_⟩
  · rw [starts_iff, growG_bit] at hs
    obtain ⟨⟨hx, j, i, hj, hi, hn, hb⟩, h2⟩ := hs
    rw [List.mem_map]
    rcases h2 with rfl | h2
    · obtain ⟨l, h3, h4⟩ := first_start i hb
      exact ⟨l, h.st j l hj h4, by omega⟩
    · by_cases h0 : x = 0
      · obtain ⟨l, h3, h4⟩ := first_start i hb
        exact ⟨l, h.st j l hj h4, by omega⟩
      · have h5 : ∀ i', i' < 64 → i' ≤ x - 1 + d → x - 1 ≤ i' + d → (g j).testBit i' = false := fun i' h6 h7 h8 => bool_not fun h9 => by
          have : (growG g d y).testBit (x - 1) = true := (growG_bit _ _ _ _).2 ⟨by omega, j, i', hj, h6, by omega, h9⟩
          rw [h2] at this; cases this
        have h6 : ¬ i ≤ x - 1 + d := fun h7 => by rw [h5 i hi h7 (by omega)] at hb; cases hb
        refine ⟨i, h.st j i hj ((starts_iff _ _).2 ⟨hb, .inr (h5 (i - 1) (by omega) (by omega) (by omega))⟩), by omega⟩
  · rw [ends_iff, growG_bit] at hs
    obtain ⟨h0, ⟨hx, j, i, hj, hi, hn, hb⟩, h2⟩ := hs
    rw [List.mem_map]
    by_cases h64 : x = 64
    · obtain ⟨r, h3, h4, h5⟩ := last_end (h.ok j) hb
      exact ⟨r, h.en j r hj h5, by omega⟩
    · have h5 : ∀ i', i' < 64 → i' ≤ x + d → x ≤ i' + d → (g j).testBit i' = false := fun i' h6 h7 h8 => bool_not fun h9 => by
        have : (growG g d y).testBit x = true := (growG_bit _ _ _ _).2 ⟨by omega, j, i', hj, h6, by omega, h9⟩
        rw [h2] at this; cases this
      have h6 : ¬ x ≤ i + d := fun h7 => by rw [h5 i hi (by omega) h7] at hb; cases hb
      refine ⟨i + 1, h.en j (i + 1) hj ((ends_iff _ _).2 ⟨by omega, by rw [Nat.add_sub_cancel]; exact hb, h5 (i + 1) (by omega) (by omega) (by omega)⟩), by omega⟩
  · rw [List.mem_append, List.mem_map, List.mem_map, not_or] at hn
    have hnl : ∀ j ∈ Y, j - d ≠ y := fun j hj e => hn.1 ⟨j, hj, e⟩
    have hnr : ∀ j ∈ Y, j + d ≠ y := fun j hj e => hn.2 ⟨j, hj, e⟩
    by_cases h0 : y = 0
    · rw [if_pos h0]
      refine eq_of_bits (growG_ok _ _ y) (by decide) (fun x hx => ?_)
      rw [Nat.zero_testBit]
      refine bool_not fun hb => ?_
      obtain ⟨_, j, i, hj, hi, hn', hb⟩ := (growG_bit _ _ _ _).1 hb
      obtain ⟨y0, h1, h2⟩ := first_change h j hj (fun e => by rw [e] at hb; simp at hb)
      exact hnl y0 h2 (by omega)
    · rw [if_neg h0]
      refine eq_of_bits (growG_ok _ _ y) (growG_ok _ _ (y - 1)) (fun x hx => Bool.eq_iff_iff.2 ?_)
      constructor
      · intro hb
        obtain ⟨_, j, i, hj, hi, hn', hb⟩ := (growG_bit _ _ _ _).1 hb
        by_cases e : j = y + d
        · have hY : j ∉ Y := fun hm => hnl j hm (by omega)
          have := h.ch j hj hY
          rw [if_neg (by omega)] at this
          exact (growG_bit _ _ _ _).2 ⟨hx, j - 1, i, by omega, hi, by omega, by rw [← this]; exact hb⟩
        · exact (growG_bit _ _ _ _).2 ⟨hx, j, i, hj, hi, by omega, hb⟩
      · intro hb
        obtain ⟨_, j, i, hj, hi, hn', hb⟩ := (growG_bit _ _ _ _).1 hb
        by_cases e : y ≤ j + d
        · exact (growG_bit _ _ _ _).2 ⟨hx, j, i, hj, hi, by omega, hb⟩
        · have hY : j + 1 ∉ Y := fun hm => hnr (j + 1) hm (by omega)
          have := h.ch (j + 1) (by omega) hY
          rw [if_neg (by omega), Nat.add_sub_cancel] at this
          exact (growG_bit _ _ _ _).2 ⟨hx, j + 1, i, by omega, hi, by omega, by rw [this]; exact hb⟩
theorem Ar.grow_few {L R Y : List Nat} {g : Grd} (h : Few L R Y g) (n : 2 * Y.length * L.length ≤ 100) (d : Nat) : Ar (rectsG (growG g d)) (growG g d) :=
  Ar.few_L (h.grow d) (by rw [List.length_append, List.length_map, List.length_map, List.length_map]; exact Nat.le_trans (Nat.mul_le_mul_right _ (by omega)) n)
/-! ### laws -/
theorem grow_congr {g h : Grd} (e : Eq64 g h) (d : Nat) : Eq64 (growG g d) (growG h d) := by
  refine eq64_iff (growG_ok _ _) (growG_ok _ _) (fun y x hy hx => ?_)
  rw [growG_bit, growG_bit]
  constructor
  · rintro ⟨hx, j, i, hj, hi, hn, hb⟩; exact ⟨hx, j, i, hj, hi, hn, by rw [← e j hj]; exact hb⟩
  · rintro ⟨hx, j, i, hj, hi, hn, hb⟩; exact ⟨hx, j, i, hj, hi, hn, by rw [e j hj]; exact hb⟩
theorem mid (y j d e : Nat) (hy : y < 64) (hj : j < 64) (h1 : j ≤ y + (d + e)) (h2 : y ≤ j + (d + e)) : ∃ m, m < 64 ∧ j ≤ m + d ∧ m ≤ j + d ∧ m ≤ y + e ∧ y ≤ m + e := by
  by_cases h : y ≤ j
  · exact ⟨max y (j - d), by omega, by omega, by omega, by omega, by omega⟩
  · exact ⟨min y (j + d), by omega, by omega, by omega, by omega, by omega⟩
theorem grow_grow (g : Grd) (d e : Nat) : Eq64 (growG (growG g d) e) (growG g (d + e)) := by
  refine eq64_iff (growG_ok _ _) (growG_ok _ _) (fun y x hy hx => ?_)
  rw [growG_bit, growG_bit]
  constructor
  · rintro ⟨hx, j, i, hj, hi, hn, hb⟩
    obtain ⟨_, j', i', hj', hi', hn', hb'⟩ := (growG_bit _ _ _ _).1 hb
    exact ⟨hx, j', i', hj', hi', by omega, hb'⟩
  · rintro ⟨hx, j, i, hj, hi, hn, hb⟩
    obtain ⟨m, m1, m2, m3, m4, m5⟩ := mid y j d e hy hj (by omega) (by omega)
    obtain ⟨n, n1, n2, n3, n4, n5⟩ := mid x i d e hx hi (by omega) (by omega)
    exact ⟨hx, m, n, m1, n1, by omega, (growG_bit _ _ _ _).2 ⟨n1, j, i, hj, hi, by omega, hb⟩⟩
theorem grow_zero {g : Grd} (hg : g.ok) : Eq64 (growG g 0) g := by
  refine eq64_iff (growG_ok _ _) hg (fun y x hy hx => ?_)
  rw [growG_bit]
  constructor
  · rintro ⟨hx, j, i, hj, hi, hn, hb⟩
    obtain rfl : j = y := by omega
    obtain rfl : i = x := by omega
    exact hb
  · intro hb; exact ⟨hx, y, x, hy, hx, by omega, hb⟩
theorem grow_sub {g : Grd} {d e : Nat} (h : d ≤ e) : Sub (growG g d) (growG g e) := by
  intro y x hy hx hb
  obtain ⟨hx, j, i, hj, hi, hn, hb⟩ := (growG_bit _ _ _ _).1 hb
  exact (growG_bit _ _ _ _).2 ⟨hx, j, i, hj, hi, by omega, hb⟩
theorem sub_grow (g : Grd) (d : Nat) : Sub g (growG g d) := fun y x hy hx hb => (growG_bit _ _ _ _).2 ⟨hx, y, x, hy, hx, by omega, hb⟩
theorem grow_or {g h : Grd} (d : Nat) : Eq64 (growG (combG orN g h) d) (combG orN (growG g d) (growG h d)) := by
  refine eq64_iff (growG_ok _ _) (combG_ok_or (growG_ok _ _) (growG_ok _ _)) (fun y x hy hx => ?_)
  rw [or_bit, Bool.or_eq_true, growG_bit, growG_bit, growG_bit]
  constructor
  · rintro ⟨hx, j, i, hj, hi, hn, hb⟩
    rw [or_bit, Bool.or_eq_true] at hb
    rcases hb with hb | hb
    · exact .inl ⟨hx, j, i, hj, hi, hn, hb⟩
    · exact .inr ⟨hx, j, i, hj, hi, hn, hb⟩
  · rintro (⟨hx, j, i, hj, hi, hn, hb⟩ | ⟨hx, j, i, hj, hi, hn, hb⟩)
    · exact ⟨hx, j, i, hj, hi, hn, by rw [or_bit, hb]; rfl⟩
    · exact ⟨hx, j, i, hj, hi, hn, by rw [or_bit, hb, Bool.or_true]⟩
theorem grow_whole {a : List Rct} {g : Grd} (k : Ar a g) (h : a ≠ []) : Eq64 (growG g 63) (oneG whR) := by
  have : ∃ y x, y < 64 ∧ x < 64 ∧ (g y).testBit x = true := by
    refine Classical.byContradiction fun hn => h (k.valE.2 fun y x hy hx => bool_not fun hb => hn ⟨y, x, hy, hx, hb⟩)
  obtain ⟨j, i, hj, hi, hb⟩ := this
  refine eq64_iff (growG_ok _ _) (oneG_ok whR_ok) (fun y x hy hx => ?_)
  rw [whole_bit hy hx, growG_bit]
  exact ⟨fun _ => rfl, fun _ => ⟨hx, j, i, hj, hi, by omega, hb⟩⟩
theorem grow_none {d : Nat} : Eq64 (growG g0 d) g0 := by
  refine eq64_iff (growG_ok _ _) g0_ok (fun y x hy hx => ?_)
  rw [growG_bit]
  constructor
  · rintro ⟨_, j, i, _, _, _, hb⟩; simp [g0] at hb
  · intro hb; simp [g0] at hb
end Go.Proofs.YtplamgmmncenjaaDoorR
