/- Plain: the rectangles of a set cover just the set. No program stands here. -/
import Derived.Test.YtplamgmmncenjaaDoorRW16
namespace Go.Proofs.YtplamgmmncenjaaDoorR
open Go
theorem mask_int {l r : Int} (h0 : 0 ≤ l) (h1 : l < r) (x : Nat) : (mask l.toNat r.toNat).testBit x = (decide (l ≤ (x : Int)) && decide ((x : Int) < r)) := by
  rw [mask_bit (by omega), Bool.eq_iff_iff]
  simp only [decide_eq_true_eq, Bool.and_eq_true]; omega
theorem fillG_bit (g : Grd) {q : Rct} (hq : okR q = true) (y x : Nat) : (fillG g q y).testBit x = ((g y).testBit x || inR x y q) := by
  have := okR_parts hq
  unfold fillG fillTo inR
  split
  · rename_i h
    rw [Nat.testBit_or, mask_int (by omega) (by omega), dt h.1, dt (show (y : Int) < q.hi by omega)]
    simp
  · rename_i h
    have : (decide (q.lo ≤ (y : Int)) && decide ((y : Int) < q.hi)) = false := by
      rw [Bool.and_eq_false_iff, decide_eq_false_iff_not, decide_eq_false_iff_not]; omega
    rw [Bool.and_assoc, Bool.and_assoc, this]; simp
theorem foldl_bit (y x : Nat) : ∀ (l : List Rct) (g : Grd), allOk l = true → (l.foldl fillG g y).testBit x = ((g y).testBit x || l.any (inR x y))
  | [], g, _ => by simp
  | q :: l, g, h => by
    unfold allOk at h
    simp only [List.all_cons, Bool.and_eq_true] at h
    rw [List.foldl_cons, foldl_bit y x l _ h.2, fillG_bit g h.1, List.any_cons, Bool.or_assoc]
theorem setL_bit {l : List Rct} (h : allOk l = true) (y x : Nat) : (setL l y).testBit x = l.any (inR x y) := by
  unfold setL
  rw [foldl_bit y x l g0 h]; simp [g0]
/-- the interval of a row that holds a place -/
theorem iv_ex {p x : Nat} (hp : p < 18446744073709551616) (hx : p.testBit x = true) : ∃ q : Iv, hasIv p q = true ∧ q.l ≤ x ∧ x < q.r := by
  have hx64 := bit_lt hp hx
  have low : ∃ l, l ≤ x ∧ starts p l = true ∧ ∀ j, l ≤ j → j ≤ x → p.testBit j = true := by
    clear hx64
    induction x with
    | zero => exact ⟨0, Nat.le_refl _, by simp [starts, hx], fun j h1 h2 => by rw [show j = 0 by omega]; exact hx⟩
    | succ x ih =>
      by_cases h : p.testBit x = true
      · obtain ⟨l, h1, h2, h3⟩ := ih h
        refine ⟨l, by omega, h2, fun j h4 h5 => ?_⟩
        by_cases e : j = x + 1
        · rw [e]; exact hx
        · exact h3 j h4 (by omega)
      · refine ⟨x + 1, Nat.le_refl _, by simp [starts, hx]; simpa using h, fun j h4 h5 => by rw [show j = x + 1 by omega]; exact hx⟩
  obtain ⟨l, h1, h2, h3⟩ := low
  have hl : l < 64 := by omega
  refine ⟨⟨l, endOf p l, starts_lt hl h2, endOf_le p (by omega)⟩, by simp [hasIv, h2], h1, ?_⟩
  rcases Nat.lt_or_ge x (endOf p l) with h | h
  · exact h
  · exfalso
    have := endOf_stop hp (l := l) (by omega)
    rw [h3 _ (endOf_ge p l) h] at this; cases this
theorem hasIv_bits {p : Nat} {q : Iv} (h : hasIv p q = true) (x : Nat) (h1 : q.l ≤ x) (h2 : x < q.r) : p.testBit x = true := by
  simp only [hasIv, Bool.and_eq_true, beq_iff_eq] at h
  exact endOf_bits p q.l x h1 (by rw [h.2]; exact h2)
theorem highOf_gt (g : Grd) (q : Iv) (y : Nat) : y < highOf g q y := by have := (highF_spec g q (63 - y) (y + 1)).1; unfold highOf; omega
theorem highOf_le (g : Grd) (q : Iv) {y : Nat} (h : y < 64) : highOf g q y ≤ 64 := by have := (highF_spec g q (63 - y) (y + 1)).2.1; unfold highOf; omega
theorem highOf_has (g : Grd) (q : Iv) {y : Nat} (h : hasIv (g y) q = true) (i : Nat) (h1 : y ≤ i) (h2 : i < highOf g q y) : hasIv (g i) q = true := by
  by_cases e : i = y
  · rw [e]; exact h
  · exact (highF_spec g q (63 - y) (y + 1)).2.2.1 i (by omega) h2
theorem highOf_stop (g : Grd) (q : Iv) {y : Nat} (h : y < 64) : highOf g q y = 64 ∨ hasIv (g (highOf g q y)) q = false := by
  rcases (highF_spec g q (63 - y) (y + 1)).2.2.2 with h' | h'
  · left; unfold highOf; omega
  · exact .inr h'
theorem mem_rectsG {g : Grd} {c : Rct} : c ∈ rectsG g ↔ ∃ y q, y < 64 ∧ hasIv (g y) q = true ∧ ¬ (0 < y ∧ hasIv (g (y - 1)) q = true) ∧ c = ⟨q.l, q.r, y, highOf g q y⟩ := by
  unfold rectsG rectsTo
  rw [List.mem_flatMap]
  constructor
  · rintro ⟨y, hy, h⟩
    unfold rowRects at h
    rw [List.mem_filterMap] at h
    obtain ⟨q, hq, h⟩ := h
    unfold rectAt at h
    split at h
    · cases h
    · rename_i hh
      exact ⟨y, q, by simpa using hy, mem_ivs.1 hq, hh, by cases h; rfl⟩
  · rintro ⟨y, q, hy, hq, hh, rfl⟩
    refine ⟨y, by simpa using hy, ?_⟩
    unfold rowRects
    rw [List.mem_filterMap]
    refine ⟨q, mem_ivs.2 hq, ?_⟩
    unfold rectAt
    rw [if_neg hh]
theorem rectsG_allOk (g : Grd) : allOk (rectsG g) = true := by
  unfold allOk
  rw [List.all_eq_true]
  intro c hc
  obtain ⟨y, q, hy, _, _, rfl⟩ := mem_rectsG.1 hc
  have h1 := q.lt
  have h2 := q.le
  have h3 := highOf_gt g q y
  have h4 := highOf_le g q hy
  unfold okR
  rw [decide_eq_true_eq]
  dsimp only
  omega
theorem first_row (g : Grd) (q : Iv) : ∀ y, hasIv (g y) q = true → ∃ y0, y0 ≤ y ∧ (∀ i, y0 ≤ i → i ≤ y → hasIv (g i) q = true) ∧ ¬ (0 < y0 ∧ hasIv (g (y0 - 1)) q = true)
  | 0, h => ⟨0, Nat.le_refl _, fun i h1 h2 => by rw [show i = 0 by omega]; exact h, fun hh => by omega⟩
  | y + 1, h => by
    by_cases h' : hasIv (g y) q = true
    · obtain ⟨y0, h1, h2, h3⟩ := first_row g q y h'
      refine ⟨y0, by omega, fun i h4 h5 => ?_, h3⟩
      by_cases e : i = y + 1
      · rw [e]; exact h
      · exact h2 i h4 (by omega)
    · exact ⟨y + 1, Nat.le_refl _, fun i h1 h2 => by rw [show i = y + 1 by omega]; exact h, fun hh => h' hh.2⟩
theorem rectsG_cover {g : Grd} (hg : g.ok) {y : Nat} (hy : y < 64) (x : Nat) : (rectsG g).any (inR x y) = (g y).testBit x := by
  rw [Bool.eq_iff_iff, List.any_eq_true]
  constructor
  · rintro ⟨c, hc, hin⟩
    obtain ⟨y0, q, hy0, hq, _, rfl⟩ := mem_rectsG.1 hc
    simp only [inR, Bool.and_eq_true, decide_eq_true_eq] at hin
    exact hasIv_bits (highOf_has g q hq y (by omega) (by omega)) x (by omega) (by omega)
  · intro h
    obtain ⟨q, hq, h1, h2⟩ := iv_ex (hg y) h
    obtain ⟨y0, h3, h4, h5⟩ := first_row g q y hq
    refine ⟨_, mem_rectsG.2 ⟨y0, q, by omega, h4 y0 (Nat.le_refl _) h3, h5, rfl⟩, ?_⟩
    have h6 : y < highOf g q y0 := by
      rcases Nat.lt_or_ge y (highOf g q y0) with h | h
      · exact h
      · exfalso
        have h7 := highOf_gt g q y0
        rcases highOf_stop g q (y := y0) (by omega) with h8 | h8
        · omega
        · rw [h4 _ (by omega) h] at h8; cases h8
    simp only [inR, Bool.and_eq_true, decide_eq_true_eq]
    omega
/-- alike on the map's rows -/
def Eq64 (g h : Grd) : Prop := ∀ y, y < 64 → g y = h y
theorem Eq64.symm {g h : Grd} (e : Eq64 g h) : Eq64 h g := fun y hy => (e y hy).symm
theorem Eq64.trans {g h k : Grd} (e : Eq64 g h) (f : Eq64 h k) : Eq64 g k := fun y hy => (e y hy).trans (f y hy)
theorem Eq64.of_bits {g h : Grd} (hg : g.ok) (hh : h.ok) (e : ∀ y x, y < 64 → x < 64 → (g y).testBit x = (h y).testBit x) : Eq64 g h := fun y hy => eq_of_bits (hg y) (hh y) (fun x hx => e y x hy hx)
theorem highF_congr {g h : Grd} (e : Eq64 g h) (q : Iv) : ∀ f b, b + f ≤ 64 → highF g q f b = highF h q f b
  | 0, _, _ => rfl
  | f + 1, b, hb => by simp only [highF]; rw [e b (by omega), highF_congr e q f (b + 1) (by omega)]
theorem rectsG_congr {g h : Grd} (e : Eq64 g h) : rectsG g = rectsG h := by
  unfold rectsG rectsTo
  apply congrArg List.flatten
  apply List.map_congr_left
  intro y hy
  have hy : y < 64 := by simpa using hy
  unfold rowRects
  rw [e y hy]
  apply congrArg (fun f => List.filterMap f (ivs (h y)))
  funext q
  unfold rectAt highOf
  rw [highF_congr e q _ _ (by omega)]
  by_cases h0 : 0 < y
  · rw [e (y - 1) (by omega)]
  · rw [if_neg (fun hh => h0 hh.1), if_neg (fun hh => h0 hh.1)]
theorem setL_rectsG {g : Grd} (hg : g.ok) : Eq64 (setL (rectsG g)) g := by
  refine Eq64.of_bits (setL_ok (rectsG_allOk g)) hg (fun y x hy _ => ?_)
  rw [setL_bit (rectsG_allOk g), rectsG_cover hg hy]
theorem rectsG_inj {g h : Grd} (hg : g.ok) (hh : h.ok) (e : rectsG g = rectsG h) : Eq64 g h :=
  (setL_rectsG hg).symm.trans (by rw [e]; exact setL_rectsG hh)
theorem rectsG_eq_iff {g h : Grd} (hg : g.ok) (hh : h.ok) : rectsG g = rectsG h ↔ Eq64 g h := ⟨rectsG_inj hg hh, rectsG_congr⟩
theorem validL_rectsG {g : Grd} (hg : g.ok) (hl : (rectsG g).length ≤ 100) : validL (rectsG g) = true := by
  unfold validL
  rw [rectsG_allOk, rectsG_congr (setL_rectsG hg)]
  simp [hl]
theorem openV_rectsG {g : Grd} (hg : g.ok) (hl : (rectsG g).length ≤ 100) : Eq64 (openV (rectsG g)) g := by
  unfold openV
  rw [validL_rectsG hg hl]
  exact setL_rectsG hg
end Go.Proofs.YtplamgmmncenjaaDoorR
