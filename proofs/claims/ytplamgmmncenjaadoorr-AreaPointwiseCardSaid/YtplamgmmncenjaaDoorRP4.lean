/- Plain: how many rectangles a set has at most, by the places where something changes. No program stands here. -/
import Derived.Test.YtplamgmmncenjaaDoorRP3
namespace Go.Proofs.YtplamgmmncenjaaDoorR
open Go
theorem nodup_len : ∀ (l Y : List Nat), l.Nodup → (∀ x ∈ l, x ∈ Y) → l.length ≤ Y.length
  | [], _, _, _ => Nat.zero_le _
  | a :: l, Y, hn, h => by
    rw [List.nodup_cons] at hn
    have ha : a ∈ Y := h a (by simp)
    have := nodup_len l (Y.erase a) hn.2 (fun x hx => (List.mem_erase_of_ne (fun e => hn.1 (by rw [← e]; exact hx))).2 (h x (by simp [hx])))
    rw [List.length_erase_of_mem ha] at this
    have hp : 0 < Y.length := List.length_pos_of_mem ha
    rw [List.length_cons]; omega
def endsAt (p x : Nat) : Bool := decide (0 < x) && p.testBit (x - 1) && !p.testBit x
/-- every start lies in L, every end in R, every row that differs from the one before in Y -/
structure Few (L R Y : List Nat) (g : Grd) : Prop where
  ok : g.ok
  st : ∀ y x, y < 64 → starts (g y) x = true → x ∈ L
  en : ∀ y x, y < 64 → endsAt (g y) x = true → x ∈ R
  ch : ∀ y, y < 64 → y ∉ Y → g y = if y = 0 then 0 else g (y - 1)
theorem hasIv_end {p : Nat} (hp : p < 18446744073709551616) {q : Iv} (h : hasIv p q = true) : endsAt p q.r = true := by
  simp only [hasIv, Bool.and_eq_true, beq_iff_eq] at h
  have h1 := q.lt
  have h2 := q.le
  have h3 := endOf_stop hp (l := q.l) (by omega)
  have h4 := endOf_bits p q.l (q.r - 1) (by omega) (by omega)
  rw [h.2] at h3
  simp [endsAt, h3, h4]; omega
theorem ivsTo_starts (p : Nat) : ∀ n, (ivsTo p n).map Iv.l = (List.range n).filter fun l => decide (l < 64) && starts p l
  | 0 => rfl
  | n + 1 => by
    rw [ivsTo_succ, List.map_append, ivsTo_starts p n, List.range_succ, List.filter_append]
    congr 1
    by_cases h : n < 64 ∧ starts p n = true
    · rw [ivAt_some h.1 h.2]; simp [h.1, h.2]
    · have : ivAt p n = none := by unfold ivAt; rw [dif_neg h]
      rw [this]
      by_cases h1 : n < 64
      · have : starts p n = false := by simpa [h1] using h
        simp [this]
      · simp [h1]
theorem ivs_nodup (p : Nat) : ((ivs p).map Iv.l).Nodup := by
  unfold ivs
  rw [ivsTo_starts]
  exact List.Nodup.sublist List.filter_sublist List.nodup_range
theorem ivs_len_L {L R Y : List Nat} {g : Grd} (h : Few L R Y g) {y : Nat} (hy : y < 64) : (ivs (g y)).length ≤ L.length := by
  rw [← List.length_map (f := Iv.l)]
  refine nodup_len _ _ (ivs_nodup _) (fun x hx => ?_)
  obtain ⟨q, hq, rfl⟩ := List.mem_map.1 hx
  have := mem_ivs.1 hq
  simp only [hasIv, Bool.and_eq_true] at this
  exact h.st y _ hy this.1
theorem iv_end_inj {p : Nat} {a b : Iv} (ha : hasIv p a = true) (hb : hasIv p b = true) (h : a.r = b.r) : a.l = b.l := by
  have key : ∀ a b : Iv, hasIv p a = true → hasIv p b = true → a.r = b.r → ¬ a.l < b.l := by
    intro a b ha hb h hlt
    have h1 : starts p b.l = true := by simp only [hasIv, Bool.and_eq_true] at hb; exact hb.1
    have hbl := b.lt
    have := starts_inner (p := p) (l := a.l) (i := b.l) (fun j h2 h3 => hasIv_bits ha j h2 (by omega)) hlt
    rw [h1] at this; cases this
  rcases Nat.lt_trichotomy a.l b.l with h' | h' | h'
  · exact absurd h' (key a b ha hb h)
  · exact h'
  · exact absurd h' (key b a hb ha h.symm)
theorem ivs_nodup_r (p : Nat) : ((ivs p).map Iv.r).Nodup := by
  have h := ivs_nodup p
  unfold List.Nodup at *
  rw [List.pairwise_map] at *
  refine List.Pairwise.imp_of_mem (fun {a b} ha hb hne e => hne (iv_end_inj (mem_ivs.1 ha) (mem_ivs.1 hb) e)) h
theorem ivs_len_X {X Y : List Nat} {g : Grd} (h : Few X X Y g) {y : Nat} (hy : y < 64) : 2 * (ivs (g y)).length ≤ X.length := by
  have hn : ((ivs (g y)).map Iv.l ++ (ivs (g y)).map Iv.r).Nodup := by
    rw [List.nodup_append]
    refine ⟨ivs_nodup _, ivs_nodup_r _, fun a ha b hb e => ?_⟩
    obtain ⟨q, hq, rfl⟩ := List.mem_map.1 ha
    obtain ⟨q', hq', e'⟩ := List.mem_map.1 hb
    have h1 := hasIv_end (h.ok y) (mem_ivs.1 hq')
    have h2 := hasIv_bits (mem_ivs.1 hq) q.l (Nat.le_refl _) q.lt
    rw [e', ← e] at h1
    simp [endsAt, h2] at h1
  have := nodup_len _ X hn (fun x hx => by
    rcases List.mem_append.1 hx with hx | hx
    · obtain ⟨q, hq, rfl⟩ := List.mem_map.1 hx
      have := mem_ivs.1 hq
      simp only [hasIv, Bool.and_eq_true] at this
      exact h.st y _ hy this.1
    · obtain ⟨q, hq, rfl⟩ := List.mem_map.1 hx
      exact h.en y _ hy (hasIv_end (h.ok y) (mem_ivs.1 hq)))
  rw [List.length_append, List.length_map, List.length_map] at this
  omega
theorem rowRects_le (g : Grd) (y : Nat) : (rowRects g y).length ≤ (ivs (g y)).length := List.length_filterMap_le _ _
theorem rowRects_same {L R Y : List Nat} {g : Grd} (h : Few L R Y g) {y : Nat} (hy : y < 64) (hn : y ∉ Y) : rowRects g y = [] := by
  have hc := h.ch y hy hn
  unfold rowRects
  rw [List.filterMap_eq_nil_iff]
  intro q hq
  have hi := mem_ivs.1 hq
  by_cases h0 : y = 0
  · rw [if_pos h0] at hc
    rw [hc] at hi
    simp [hasIv, starts] at hi
  · rw [if_neg h0] at hc
    unfold rectAt
    rw [if_pos ⟨by omega, by rw [← hc]; exact hi⟩]
theorem sum_le (f : Nat → Nat) (Y : List Nat) (n : Nat) : ∀ l : List Nat, (∀ y ∈ l, f y ≤ n) → (∀ y ∈ l, y ∉ Y → f y = 0) → (l.map f).sum ≤ (l.filter fun y => decide (y ∈ Y)).length * n
  | [], _, _ => by simp
  | a :: l, h1, h2 => by
    have ih := sum_le f Y n l (fun y hy => h1 y (by simp [hy])) (fun y hy => h2 y (by simp [hy]))
    rw [List.map_cons, List.sum_cons]
    by_cases h : a ∈ Y
    · rw [List.filter_cons_of_pos (by simpa using h), List.length_cons, Nat.add_mul, Nat.one_mul]
      have := h1 a (by simp); omega
    · rw [List.filter_cons_of_neg (by simpa using h), h2 a (by simp) h]; omega
theorem rectsG_few {L R Y : List Nat} {g : Grd} (h : Few L R Y g) (n : Nat) (hn : ∀ y, y < 64 → (ivs (g y)).length ≤ n) : (rectsG g).length ≤ Y.length * n := by
  unfold rectsG rectsTo
  rw [List.length_flatMap]
  refine Nat.le_trans (sum_le _ Y n _ (fun y hy => Nat.le_trans (rowRects_le g y) (hn y (by simpa using hy))) (fun y hy hny => by rw [rowRects_same h (by simpa using hy) hny]; rfl)) ?_
  exact Nat.mul_le_mul_right n (nodup_len _ _ (List.Nodup.sublist List.filter_sublist List.nodup_range) (fun x hx => by simpa using (List.mem_filter.1 hx).2))
theorem few_len_L {L R Y : List Nat} {g : Grd} (h : Few L R Y g) : (rectsG g).length ≤ Y.length * L.length := rectsG_few h _ (fun _ hy => ivs_len_L h hy)
theorem few_len_X {X Y : List Nat} {g : Grd} (h : Few X X Y g) : (rectsG g).length ≤ Y.length * (X.length / 2) := rectsG_few h _ (fun _ hy => by have := ivs_len_X h hy; omega)
end Go.Proofs.YtplamgmmncenjaaDoorR
