/- Plain: sizes of areas; rectangles that have no place in common. No program stands here. -/
import Derived.Test.YtplamgmmncenjaaDoorRP7
namespace Go.Proofs.YtplamgmmncenjaaDoorR
open Go
/-! ### sizes of sets -/
theorem popTo_more (n x : Nat) : popTo (n + 1) x = popTo n x + if x.testBit n then 1 else 0 := by
  unfold popTo
  rw [List.range_succ, List.countP_append, List.countP_singleton]
theorem pop_or_and (p q : Nat) : pop (orN p q) + pop (andN p q) = pop p + pop q := by
  unfold pop
  generalize 64 = n
  induction n with
  | zero => simp [popTo]
  | succ n ih =>
    rw [popTo_more, popTo_more, popTo_more, popTo_more]
    have e1 : (orN p q).testBit n = (p.testBit n || q.testBit n) := Nat.testBit_or _ _ _
    have e2 : (andN p q).testBit n = (p.testBit n && q.testBit n) := Nat.testBit_and _ _ _
    rw [e1, e2]
    cases p.testBit n <;> cases q.testBit n <;> simp <;> omega
theorem pop_minus {p q : Nat} (hp : p < 18446744073709551616) (hq : q < 18446744073709551616) : pop (minusN p q) + pop (andN p q) = pop p := by
  unfold pop
  generalize 64 = n
  induction n with
  | zero => simp [popTo]
  | succ n ih =>
    rw [popTo_more, popTo_more, popTo_more, minusN_bit hp hq]
    have e2 : (andN p q).testBit n = (p.testBit n && q.testBit n) := Nat.testBit_and _ _ _
    rw [e2]
    cases p.testBit n <;> cases q.testBit n <;> simp <;> omega
theorem sum_or_and (g h : Grd) (k : Nat) : popSum (combG orN g h) k + popSum (combG andN g h) k = popSum g k + popSum h k := by
  induction k with
  | zero => simp [popSum]
  | succ k ih =>
    have := pop_or_and (g k) (h k)
    rw [popSum_succ, popSum_succ, popSum_succ, popSum_succ]
    show _ + pop (orN (g k) (h k)) + (_ + pop (andN (g k) (h k))) = _
    omega
theorem sum_minus {g h : Grd} (hg : g.ok) (hh : h.ok) (k : Nat) : popSum (combG minusN g h) k + popSum (combG andN g h) k = popSum g k := by
  induction k with
  | zero => simp [popSum]
  | succ k ih =>
    have := pop_minus (hg k) (hh k)
    rw [popSum_succ, popSum_succ, popSum_succ]
    show _ + pop (minusN (g k) (h k)) + (_ + pop (andN (g k) (h k))) = _
    omega
theorem sum_congr {g h : Grd} (e : Eq64 g h) (k : Nat) (hk : k ≤ 64) : popSum g k = popSum h k := by
  induction k with
  | zero => simp [popSum]
  | succ k ih => rw [popSum_succ, popSum_succ, ih (by omega), e k (by omega)]
theorem Ar.size {a : List Rct} {g : Grd} (k : Ar a g) : sizeL a = popSum g 64 := sum_congr k.opn 64 (Nat.le_refl _)
/-! ### no place in common -/
theorem iv_same {p x : Nat} {a b : Iv} (ha : hasIv p a = true) (hb : hasIv p b = true) (h1 : a.l ≤ x) (h2 : x < a.r) (h3 : b.l ≤ x) (h4 : x < b.r) : a = b := by
  have key : ∀ a b : Iv, hasIv p a = true → hasIv p b = true → a.l ≤ x → x < a.r → b.l ≤ x → x < b.r → ¬ a.l < b.l := by
    intro a b ha hb h1 h2 h3 h4 hlt
    have h5 : starts p b.l = true := by simp only [hasIv, Bool.and_eq_true] at hb; exact hb.1
    have := starts_inner (p := p) (l := a.l) (i := b.l) (fun j h6 h7 => hasIv_bits ha j h6 (by omega)) hlt
    rw [h5] at this; cases this
  have e : a.l = b.l := by
    have := key a b ha hb h1 h2 h3 h4
    have := key b a hb ha h3 h4 h1 h2
    omega
  refine Iv.ext e ?_
  simp only [hasIv, Bool.and_eq_true, beq_iff_eq] at ha hb
  rw [← ha.2, ← hb.2, e]
theorem rects_same {g : Grd} {c e : Rct} (hc : c ∈ rectsG g) (he : e ∈ rectsG g) {y x : Nat} (h1 : inR x y c = true) (h2 : inR x y e = true) : c = e := by
  obtain ⟨y1, q1, hy1, hq1, hn1, rfl⟩ := mem_rectsG.1 hc
  obtain ⟨y2, q2, hy2, hq2, hn2, rfl⟩ := mem_rectsG.1 he
  rw [inR_iff] at h1 h2
  dsimp only at h1 h2
  have i1 := highOf_has g q1 hq1 y (by omega) (by omega)
  have i2 := highOf_has g q2 hq2 y (by omega) (by omega)
  obtain rfl := iv_same (x := x) i1 i2 (by omega) (by omega) (by omega) (by omega)
  have : y1 = y2 := by
    rcases Nat.lt_trichotomy y1 y2 with h | h | h
    · exact absurd ⟨by omega, highOf_has g q1 hq1 (y2 - 1) (by omega) (by omega)⟩ hn2
    · exact h
    · exact absurd ⟨by omega, highOf_has g q1 hq2 (y1 - 1) (by omega) (by omega)⟩ hn1
  rw [this]
theorem rowRects_mem {g : Grd} {y : Nat} {c : Rct} (h : c ∈ rowRects g y) : ∃ q, hasIv (g y) q = true ∧ c = ⟨q.l, q.r, y, highOf g q y⟩ := by
  unfold rowRects at h
  rw [List.mem_filterMap] at h
  obtain ⟨q, hq, h⟩ := h
  unfold rectAt at h
  split at h
  · cases h
  · exact ⟨q, mem_ivs.1 hq, by cases h; rfl⟩
theorem rects_nodup (g : Grd) : (rectsG g).Nodup := by
  unfold rectsG rectsTo List.Nodup
  rw [List.pairwise_flatMap]
  constructor
  · intro y _
    unfold rowRects
    have := ivs_nodup (g y)
    unfold List.Nodup at this
    rw [List.pairwise_map] at this
    refine List.Pairwise.filterMap _ (fun a b hab c hc e he hce => ?_) this
    unfold rectAt at hc he
    split at hc
    · cases hc
    · split at he
      · cases he
      · cases hc; cases he
        simp only [Rct.mk.injEq] at hce
        exact hab (by omega)
  · refine List.Pairwise.imp_of_mem (fun {a b} _ _ hab c hc e he hce => ?_) (List.nodup_range (n := 64))
    obtain ⟨q, _, rfl⟩ := rowRects_mem hc
    obtain ⟨q', _, rfl⟩ := rowRects_mem he
    simp only [Rct.mk.injEq] at hce
    exact hab (by omega)
/-! ### the sum of the sizes of the rectangles -/
def apartR (c e : Rct) : Prop := ∀ y x : Nat, ¬ (inR x y c = true ∧ inR x y e = true)
theorem pop_or_apart {p q : Nat} (h : ∀ x, ¬ (p.testBit x = true ∧ q.testBit x = true)) : pop (p ||| q) = pop p + pop q := by
  have e : andN p q = 0 := by
    apply Nat.eq_of_testBit_eq; intro i
    have := h i
    show (p &&& q).testBit i = _
    rw [Nat.testBit_and, Nat.zero_testBit]
    exact bool_not fun hh => this (by simpa using hh)
  have := pop_or_and p q
  rw [e] at this
  have z : pop 0 = 0 := by decide
  show pop (orN p q) = _
  omega
theorem mask_apart {g : Nat} {q : Rct} (hq : okR q = true) {y : Nat} (h1 : q.lo ≤ (y : Int)) (h2 : (y : Int) < q.hi) (h : ∀ x : Nat, ¬ (g.testBit x = true ∧ inR x y q = true)) : (pop (g ||| mask q.l.toNat q.r.toNat) : Int) = pop g + (q.r - q.l) := by
  have hp := okR_parts hq
  rw [pop_or_apart (fun x hx => h x ⟨hx.1, by
    have := hx.2
    rw [mask_int (by omega) (by omega)] at this
    simp only [Bool.and_eq_true, decide_eq_true_eq] at this
    rw [inR_iff]; omega⟩)]
  have := pop_mask ⟨q.l.toNat, q.r.toNat, by omega, by omega⟩
  unfold Iv.m at this
  dsimp only at this
  rw [this]; omega
theorem sum_fill {g : Grd} {q : Rct} (hq : okR q = true) (h : ∀ y x : Nat, ¬ ((g y).testBit x = true ∧ inR x y q = true)) (k : Nat) : (popSum (fillG g q) k : Int) = popSum g k + (q.r - q.l) * max (min (k : Int) q.hi - q.lo) 0 := by
  have hp := okR_parts hq
  induction k with
  | zero => rw [show max (min ((0 : Nat) : Int) q.hi - q.lo) 0 = 0 by omega]; simp [popSum]
  | succ k ih =>
    rw [popSum_succ, popSum_succ, Int.natCast_add, Int.natCast_add, ih]
    by_cases hin : q.lo ≤ (k : Int) ∧ (k : Int) < q.hi
    · have e : fillG g q k = g k ||| mask q.l.toNat q.r.toNat := by unfold fillG fillTo; rw [if_pos (by omega)]
      rw [e, mask_apart hq hin.1 hin.2 (h k), show max (min ((k + 1 : Nat) : Int) q.hi - q.lo) 0 = max (min (k : Int) q.hi - q.lo) 0 + 1 by omega, Int.mul_add]
      omega
    · have e : fillG g q k = g k := by unfold fillG fillTo; rw [if_neg (by omega)]
      rw [e, show max (min ((k + 1 : Nat) : Int) q.hi - q.lo) 0 = max (min (k : Int) q.hi - q.lo) 0 by omega]
      omega
theorem sum_fills : ∀ (l : List Rct) (g : Grd), allOk l = true → (∀ q ∈ l, ∀ y x : Nat, ¬ ((g y).testBit x = true ∧ inR x y q = true)) → l.Pairwise apartR → (popSum (l.foldl fillG g) 64 : Int) = popSum g 64 + sumL l
  | [], g, _, _, _ => by simp [sumL]
  | q :: l, g, hl, hg, hp => by
    unfold allOk at hl
    simp only [List.all_cons, Bool.and_eq_true] at hl
    rw [List.pairwise_cons] at hp
    have hq := okR_parts hl.1
    rw [List.foldl_cons, sum_fills l _ hl.2 (fun e he y x hx => by
      rw [fillG_bit g hl.1, Bool.or_eq_true] at hx
      rcases hx.1 with h1 | h1
      · exact hg e (by simp [he]) y x ⟨h1, hx.2⟩
      · exact hp.1 e he y x ⟨h1, hx.2⟩) hp.2, sum_fill hl.1 (hg q (by simp)), show max (min ((64 : Nat) : Int) q.hi - q.lo) 0 = q.hi - q.lo by omega]
    simp only [sumL, List.map_cons, List.sum_cons]
    omega
theorem rects_apart (g : Grd) : (rectsG g).Pairwise apartR := by
  refine List.Pairwise.imp_of_mem (fun {c e} hc he hne y x hh => hne (rects_same hc he hh.1 hh.2)) (rects_nodup g)
theorem Ar.sum {a : List Rct} {g : Grd} (k : Ar a g) : (sumL a : Int) = popSum g 64 := by
  have := sum_fills (rectsG g) g0 (rectsG_allOk g) (fun q _ y x h => by simp [g0] at h) (rects_apart g)
  rw [k.eq, ← sum_congr (setL_rectsG k.ok) 64 (Nat.le_refl _)]
  unfold setL
  rw [this]
  have z : popSum g0 64 = 0 := by decide
  rw [z]; omega
/-- two of the rectangles -/
theorem Ar.cut {a : List Rct} {g : Grd} (k : Ar a g) {i j : Nat} (hi : i < a.length) (hj : j < i) : ¬ (max (a.getD i default).l (a.getD j default).l < min (a.getD i default).r (a.getD j default).r ∧ max (a.getD i default).lo (a.getD j default).lo < min (a.getD i default).hi (a.getD j default).hi) := by
  have h := rects_apart g
  rw [← k.eq, List.pairwise_iff_getElem] at h
  have := h j i (by omega) hi hj
  intro ⟨h1, h2⟩
  have e1 : a.getD i default = a[i] := by simp [List.getD, hi]
  have e2 : a.getD j default = a[j] := by simp [List.getD, show j < a.length by omega]
  have o1 := okR_parts (allOk_getD k.allOk hi)
  have o2 := okR_parts (allOk_getD k.allOk (show j < a.length by omega))
  rw [e1, e2] at h1 h2
  rw [e1] at o1
  rw [e2] at o2
  refine this (max a[i].lo a[j].lo).toNat (max a[i].l a[j].l).toNat ⟨(inR_iff _ _ _).2 ?_, (inR_iff _ _ _).2 ?_⟩ <;> omega
theorem sum_whole : popSum (oneG whR) 64 = 4096 := by decide +kernel
end Go.Proofs.YtplamgmmncenjaaDoorR
