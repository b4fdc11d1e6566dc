/- Plain: places of areas; other lists of rectangles with the same places. No program stands here. -/
import Derived.Test.YtplamgmmncenjaaDoorRP8
namespace Go.Proofs.YtplamgmmncenjaaDoorR
open Go
section
variable {a b : List Rct} {g h : Grd}
theorem Ar.has_in (k : Ar a g) {x y : Int} (h0 : 0 ≤ x) (_h1 : x < 64) (h2 : 0 ≤ y) (h3 : y < 64) : hasL a x y = (g y.toNat).testBit x.toNat := by
  unfold hasL
  rw [k.valid, Bool.and_true, ← k.any (show y.toNat < 64 by omega)]
  congr 1
  rw [Int.toNat_of_nonneg h0, Int.toNat_of_nonneg h2]
theorem Ar.has_out (k : Ar a g) {x y : Int} (ho : ¬ (0 ≤ x ∧ x < 64 ∧ 0 ≤ y ∧ y < 64)) : hasL a x y = false := by
  refine bool_not fun hh => ho ?_
  unfold hasL at hh
  rw [Bool.and_eq_true, List.any_eq_true] at hh
  obtain ⟨q, hq, hin⟩ := hh.1
  have hok := k.allOk
  unfold Go.Proofs.YtplamgmmncenjaaDoorR.allOk at hok
  rw [List.all_eq_true] at hok
  have := okR_parts (hok q hq)
  rw [inR_iff] at hin
  omega
theorem seesW_in {x y : Int} (h0 : 0 ≤ x) (h1 : x < 64) (h2 : 0 ≤ y) (h3 : y < 64) (w : Bool) : seesW x y w = w := by
  unfold seesW; rw [dt h0, dt h1, dt h2, dt h3]; simp
theorem seesW_out {x y : Int} (ho : ¬ (0 ≤ x ∧ x < 64 ∧ 0 ≤ y ∧ y < 64)) (w : Bool) : seesW x y w = false := by
  refine bool_not fun hh => ho ?_
  unfold seesW at hh
  simp only [Bool.and_eq_true, decide_eq_true_eq] at hh
  omega
theorem Ar.sees (k : Ar a g) {x y : Int} {w : Bool} (e : 0 ≤ x → x < 64 → 0 ≤ y → y < 64 → (g y.toNat).testBit x.toNat = w) : (hasL a x y == seesW x y w) = true := by
  rw [beq_iff_eq]
  by_cases hi : 0 ≤ x ∧ x < 64 ∧ 0 ≤ y ∧ y < 64
  · rw [k.has_in hi.1 hi.2.1 hi.2.2.1 hi.2.2.2, seesW_in hi.1 hi.2.1 hi.2.2.1 hi.2.2.2, e hi.1 hi.2.1 hi.2.2.1 hi.2.2.2]
  · rw [k.has_out hi, seesW_out hi]
theorem Ar.sees_or {u : List Rct} (k : Ar a g) (m : Ar b h) (o : Ar u (combG orN g h)) (x y : Int) : (hasL u x y == seesW x y (hasL a x y || hasL b x y)) = true :=
  o.sees fun h0 h1 h2 h3 => by rw [or_bit, k.has_in h0 h1 h2 h3, m.has_in h0 h1 h2 h3]
theorem Ar.sees_and {u : List Rct} (k : Ar a g) (m : Ar b h) (o : Ar u (combG andN g h)) (x y : Int) : (hasL u x y == seesW x y (hasL a x y && hasL b x y)) = true :=
  o.sees fun h0 h1 h2 h3 => by rw [and_bit, k.has_in h0 h1 h2 h3, m.has_in h0 h1 h2 h3]
theorem Ar.sees_minus {u : List Rct} (k : Ar a g) (m : Ar b h) (o : Ar u (combG minusN g h)) (x y : Int) : (hasL u x y == seesW x y (hasL a x y && !hasL b x y)) = true :=
  o.sees fun h0 h1 h2 h3 => by rw [minus_bit k.ok m.ok, k.has_in h0 h1 h2 h3, m.has_in h0 h1 h2 h3]
theorem Ar.sees_grow {u : List Rct} (k : Ar a g) {d : Int} (hd : 0 ≤ d) (o : Ar u (growG g d.toNat)) (x y : Int) : (hasL u x y == seesW x y (a.any (nearR x y d))) = true :=
  o.sees fun h0 h1 h2 h3 => by
    rw [← k.near hd (show y.toNat < 64 by omega) (show x.toNat < 64 by omega), Int.toNat_of_nonneg h0, Int.toNat_of_nonneg h2]
theorem Ar.sees_self (k : Ar a g) (x y : Int) : (hasL a x y == seesW x y (a.any (nearR x y 0))) = true :=
  k.sees fun h0 h1 h2 h3 => by
    have := k.near (d := 0) (by omega) (show y.toNat < 64 by omega) (show x.toNat < 64 by omega)
    rw [Int.toNat_of_nonneg h0, Int.toNat_of_nonneg h2] at this
    rw [this, show (0 : Int).toNat = 0 from rfl, grow_zero k.ok y.toNat (by omega)]
end
/-! ### Of -/
theorem ofOk_of {l : List Rct} (h : allOk l = true) (n : l.length ≤ 400) : ofOk l = true := by
  unfold ofOk; rw [allOk_take h, dt n]; rfl
theorem of_ar {l : List Rct} {g : Grd} (h : allOk l = true) (n : l.length ≤ 400) (e : Eq64 (setL l) g) (o : Ar (rectsG g) g) : ofE l = 0 ∧ Ar (ofL l) g := by
  have e1 := areaL_congr e
  have e2 := areaL_of o.len
  unfold ofE ofL
  rw [ofOk_of h n, e1.1, e1.2, e2.1, e2.2]
  exact ⟨rfl, o⟩
theorem set_few {l : List Rct} (h : allOk l = true) (n : l.length ≤ 6) : Ar (rectsG (setL l)) (setL l) := by
  obtain ⟨L, R, Y, h1, h2, h3, h4⟩ := few_set l g0 [] [] [] h (Few.none _ _ _)
  refine Ar.few_L h4 ?_
  simp at h1 h3
  exact mul_100 (m := 12) (n := 6) (by omega) (by omega) (by decide)
theorem listL_ok (x : List Rct) : allOk (listL x) = true := by
  unfold allOk
  rw [List.all_eq_true]
  intro q hq
  unfold listL onesL at hq
  obtain ⟨e, _, rfl⟩ := List.mem_map.1 hq
  exact oneQ_ok _
theorem listL_len (x : List Rct) : (listL x).length ≤ x.length := by
  unfold listL onesL; rw [List.length_map, List.length_take]; omega
theorem same_places {l m : List Rct} (hl : allOk l = true) (hm : allOk m = true) (e : ∀ x y : Int, m.any (inR x y) = l.any (inR x y)) : Eq64 (setL m) (setL l) :=
  Eq64.of_bits (setL_ok hm) (setL_ok hl) fun y x _ _ => by rw [setL_bit hm, setL_bit hl, e]
theorem any_set (p : Rct → Bool) (m : List Rct) (k : Nat) (one two : Rct) (hk : k < m.length) (e : (p one || p two) = p (m.getD k default)) : (m.set k one ++ [two]).any p = m.any p := by
  have h1 : m.set k one = m.take k ++ one :: m.drop (k + 1) := by rw [List.set_eq_take_append_cons_drop, if_pos hk]
  have h2 : m = m.take k ++ m.getD k default :: m.drop (k + 1) := by
    have : m.getD k default = m[k] := by simp [List.getD, hk]
    rw [this]; simp
  generalize m.getD k default = r at *
  rw [h1]
  conv => rhs; rw [h2]
  simp only [List.any_append, List.any_cons, List.any_nil, ← e]
  generalize (m.take k).any p = u
  generalize (m.drop (k + 1)).any p = v
  cases u <;> cases v <;> cases p one <;> cases p two <;> rfl
theorem any_rev (p : Rct → Bool) (l : List Rct) (j : Nat) (hj : j < l.length) : (l.reverse ++ [l.getD j default]).any p = l.any p := by
  have : l.getD j default = l[j] := by simp [List.getD, hj]
  rw [List.any_append, List.any_reverse, this, Bool.eq_iff_iff]
  simp only [List.any_cons, List.any_nil, Bool.or_false, Bool.or_eq_true, List.any_eq_true]
  constructor
  · rintro (h | h)
    · exact h
    · exact ⟨_, List.getElem_mem hj, h⟩
  · exact .inl
end Go.Proofs.YtplamgmmncenjaaDoorR
