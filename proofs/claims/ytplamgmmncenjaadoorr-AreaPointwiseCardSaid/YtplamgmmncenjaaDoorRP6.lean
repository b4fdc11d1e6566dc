/- Plain: areas; their operations as operations of sets. No program stands here. -/
import Derived.Test.YtplamgmmncenjaaDoorRP5
namespace Go.Proofs.YtplamgmmncenjaaDoorR
open Go
/-- the area of a set -/
structure Ar (a : List Rct) (g : Grd) : Prop where
  ok : g.ok
  eq : a = rectsG g
  len : (rectsG g).length ≤ 100
section
variable {a b : List Rct} {g h f : Grd}
theorem Ar.valid (k : Ar a g) : validL a = true := by rw [k.eq]; exact validL_rectsG k.ok k.len
theorem Ar.opn (k : Ar a g) : Eq64 (openV a) g := by rw [k.eq]; exact openV_rectsG k.ok k.len
theorem Ar.allOk (k : Ar a g) : allOk a = true := by rw [k.eq]; exact rectsG_allOk g
theorem Ar.len100 (k : Ar a g) : a.length ≤ 100 := by rw [k.eq]; exact k.len
theorem Ar.iff (k : Ar a g) (m : Ar b h) : a = b ↔ Eq64 g h := by rw [k.eq, m.eq]; exact rectsG_eq_iff k.ok m.ok
theorem Ar.dec (k : Ar a g) (m : Ar b h) (e : Eq64 g h) : decide (a = b) = true := dt ((k.iff m).2 e)
theorem Ar.congr (k : Ar a g) (e : Eq64 g f) (hf : f.ok) : Ar a f := ⟨hf, k.eq.trans (rectsG_congr e), by rw [← rectsG_congr e]; exact k.len⟩
theorem Ar.any (k : Ar a g) {y : Nat} (hy : y < 64) (x : Nat) : a.any (inR x y) = (g y).testBit x := by rw [k.eq]; exact rectsG_cover k.ok hy x
theorem Ar.few_X {X Y : List Nat} (k : Few X X Y g) (n : Y.length * (X.length / 2) ≤ 100) : Ar (rectsG g) g := ⟨k.ok, rfl, Nat.le_trans (few_len_X k) n⟩
theorem Ar.few_L {L R Y : List Nat} (k : Few L R Y g) (n : Y.length * L.length ≤ 100) : Ar (rectsG g) g := ⟨k.ok, rfl, Nat.le_trans (few_len_L k) n⟩
theorem combG_congr (op : Nat → Nat → Nat) {g' h' : Grd} (e : Eq64 g g') (f : Eq64 h h') : Eq64 (combG op g h) (combG op g' h') := fun y hy => by unfold combG; rw [e y hy, f y hy]
theorem areaL_of (n : (rectsG g).length ≤ 100) : areaL g = rectsG g ∧ areaE g = 0 := by
  unfold areaL areaE
  rw [if_neg (by omega), if_neg (by omega)]; exact ⟨rfl, rfl⟩
theorem areaL_congr (e : Eq64 g h) : areaL g = areaL h ∧ areaE g = areaE h := by
  unfold areaL areaE; rw [rectsG_congr e]; exact ⟨rfl, rfl⟩
theorem Ar.comb (op : Nat → Nat → Nat) (k : Ar a g) (m : Ar b h) (o : Ar (rectsG (combG op g h)) (combG op g h)) : combE op a b = 0 ∧ Ar (combL op a b) (combG op g h) := by
  have e := areaL_congr (combG_congr op k.opn m.opn)
  have e2 := areaL_of o.len
  unfold combE combL
  rw [k.valid, m.valid, e.1, e.2, e2.1, e2.2]
  exact ⟨rfl, o⟩
theorem combE_dec (op : Nat → Nat → Nat) (e : combE op a b = 0) : decide (combE op a b = 0) = true := dt e
/-! ### classes -/
/-- an area in a class -/
structure ArX (X Y : List Nat) (a : List Rct) (g : Grd) : Prop where
  few : Few X X Y g
  ar : Ar a g
structure ArL (L R Y : List Nat) (a : List Rct) (g : Grd) : Prop where
  few : Few L R Y g
  ar : Ar a g
variable {X L R Y : List Nat}
theorem ArX.of (n : Y.length * (X.length / 2) ≤ 100) (k : Few X X Y g) : ArX X Y (rectsG g) g := ⟨k, Ar.few_X k n⟩
theorem ArL.of (n : Y.length * L.length ≤ 100) (k : Few L R Y g) : ArL L R Y (rectsG g) g := ⟨k, Ar.few_L k n⟩
theorem ArX.or (n : Y.length * (X.length / 2) ≤ 100) (k : ArX X Y a g) (m : ArX X Y b h) : combE orN a b = 0 ∧ ArX X Y (combL orN a b) (combG orN g h) := by
  have o := k.few.or m.few
  have := k.ar.comb orN m.ar (Ar.few_X o n)
  exact ⟨this.1, o, this.2⟩
theorem ArX.and (n : Y.length * (X.length / 2) ≤ 100) (k : ArX X Y a g) (m : ArX X Y b h) : combE andN a b = 0 ∧ ArX X Y (combL andN a b) (combG andN g h) := by
  have o := k.few.and m.few
  have := k.ar.comb andN m.ar (Ar.few_X o n)
  exact ⟨this.1, o, this.2⟩
theorem ArX.minus (n : Y.length * (X.length / 2) ≤ 100) (k : ArX X Y a g) (m : ArX X Y b h) : combE minusN a b = 0 ∧ ArX X Y (combL minusN a b) (combG minusN g h) := by
  have o := k.few.minus m.few
  have := k.ar.comb minusN m.ar (Ar.few_X o n)
  exact ⟨this.1, o, this.2⟩
theorem ArL.or (n : Y.length * L.length ≤ 100) (k : ArL L R Y a g) (m : ArL L R Y b h) : combE orN a b = 0 ∧ ArL L R Y (combL orN a b) (combG orN g h) := by
  have o := k.few.or m.few
  have := k.ar.comb orN m.ar (Ar.few_L o n)
  exact ⟨this.1, o, this.2⟩
end
/-! ### bits -/
theorem or_bit (g h : Grd) (y x : Nat) : (combG orN g h y).testBit x = ((g y).testBit x || (h y).testBit x) := Nat.testBit_or _ _ _
theorem and_bit (g h : Grd) (y x : Nat) : (combG andN g h y).testBit x = ((g y).testBit x && (h y).testBit x) := Nat.testBit_and _ _ _
theorem minus_bit {g h : Grd} (hg : g.ok) (hh : h.ok) (y x : Nat) : (combG minusN g h y).testBit x = ((g y).testBit x && !(h y).testBit x) := minusN_bit (hg y) (hh y) x
theorem minus_nil {p q : Nat} (hp : p < 18446744073709551616) (hq : q < 18446744073709551616) : minusN p q = 0 ↔ ∀ x, x < 64 → p.testBit x = true → q.testBit x = true := by
  constructor
  · intro h x _ h1
    have := minusN_bit hp hq x
    rw [h, h1] at this
    simpa using this.symm
  · intro h
    refine eq_of_bits (and_lt hp) (by decide) (fun x hx => ?_)
    rw [minusN_bit hp hq, Nat.zero_testBit]
    cases h1 : p.testBit x
    · rfl
    · rw [h x hx h1]; rfl
/-- within -/
def Sub (g h : Grd) : Prop := ∀ y x, y < 64 → x < 64 → (g y).testBit x = true → (h y).testBit x = true
section
variable {a b c : List Rct} {g h f : Grd}
theorem Ar.within (k : Ar a g) (m : Ar b h) : withinL a b = true ↔ Sub g h := by
  unfold withinL
  rw [k.valid, m.valid, Bool.and_self, Bool.and_true, subG_iff]
  constructor
  · intro e y x hy hx
    have := e y hy
    rw [k.opn y hy, m.opn y hy] at this
    exact (minus_nil (k.ok y) (m.ok y)).1 this x hx
  · intro e y hy
    rw [k.opn y hy, m.opn y hy]
    exact (minus_nil (k.ok y) (m.ok y)).2 (fun x hx => e y x hy hx)
theorem Ar.withinB (k : Ar a g) (m : Ar b h) (e : Sub g h) : withinL a b = true := (k.within m).2 e
theorem rectsG_g0 : rectsG g0 = [] := by decide +kernel
theorem Ar.nil : Ar [] g0 := ⟨g0_ok, rectsG_g0.symm, by rw [rectsG_g0]; decide⟩
def whR : Rct := ⟨0, 64, 0, 64⟩
theorem rectsG_whole : rectsG (oneG whR) = [whR] := by decide +kernel
theorem whR_ok : okR whR = true := by decide
theorem Ar.whole : Ar [whR] (oneG whR) := ⟨oneG_ok whR_ok, rectsG_whole.symm, by rw [rectsG_whole]; decide⟩
theorem whole_bit {y x : Nat} (hy : y < 64) (hx : x < 64) : (oneG whR y).testBit x = true := by
  rw [oneG_bit whR_ok, inR_iff]; simp [whR]; omega
theorem few_whole : Few [0, 64] [0, 64] [0] (oneG whR) := by
  refine ⟨oneG_ok whR_ok, fun y x hy hs => ?_, fun y x hy hs => ?_, fun y hy hn => ?_⟩
  · rw [starts_iff, oneG_bit whR_ok, oneG_bit whR_ok, inR_iff, inR_not] at hs
    simp [whR] at hs ⊢; omega
  · rw [ends_iff, oneG_bit whR_ok, oneG_bit whR_ok, inR_iff, inR_not] at hs
    simp [whR] at hs ⊢; omega
  · simp at hn
    rw [if_neg hn]
    refine eq_of_bits (oneG_ok whR_ok y) (oneG_ok whR_ok (y - 1)) (fun x hx => ?_)
    rw [whole_bit hy hx, whole_bit (by omega) hx]
theorem Ar.valE (k : Ar a g) : (a = []) ↔ ∀ y x, y < 64 → x < 64 → (g y).testBit x = false := by
  rw [k.iff Ar.nil]
  constructor
  · intro e y x hy _; rw [e y hy]; simp [g0]
  · intro e; exact Eq64.of_bits k.ok g0_ok (fun y x hy hx => by rw [e y x hy hx]; simp [g0])
end
/-! ### what the laws make -/
theorem take_min_len (x : List Rct) (n : Nat) : (x.take n).length ≤ n := by rw [List.length_take]; omega
theorem madeL_X (x : List Rct) : ∃ X Y, X.length ≤ 2 * x.length ∧ Y.length ≤ 2 * x.length ∧ Few X X Y (madeG x) :=
  ⟨_, _, by rw [List.length_append, lsX_len, rsX_len]; omega, by rw [ysX_len]; omega, few_made x (min x.length 6)⟩
theorem madeL_L (x : List Rct) (h : x.length ≤ 2) : ∃ L R Y, L.length ≤ x.length ∧ R.length ≤ x.length ∧ Y.length ≤ 2 * x.length ∧ Few L R Y (madeG x) :=
  ⟨_, _, _, by rw [lsX_len]; omega, by rw [rsX_len]; omega, by rw [ysX_len]; omega, few_made2 x (min x.length 6) (by omega)⟩
theorem mul_100 {a b m n : Nat} (h1 : a ≤ m) (h2 : b ≤ n) (h : m * n ≤ 100) : a * b ≤ 100 := Nat.le_trans (Nat.mul_le_mul h1 h2) h
/-- two areas of at most three -/
theorem two_X (x y : List Rct) (hx : x.length ≤ 3) (hy : y.length ≤ 3) : ∃ X Y, Y.length * (X.length / 2) ≤ 100 ∧ ArX X Y (madeL x) (madeG x) ∧ ArX X Y (madeL y) (madeG y) := by
  obtain ⟨X1, Y1, h1, h2, h3⟩ := madeL_X x
  obtain ⟨X2, Y2, k1, k2, k3⟩ := madeL_X y
  have n : (Y1 ++ Y2).length * ((X1 ++ X2).length / 2) ≤ 100 := by
    rw [List.length_append, List.length_append]
    exact mul_100 (m := 12) (n := 6) (by omega) (by omega) (by decide)
  exact ⟨X1 ++ X2, Y1 ++ Y2, n, ArX.of n (h3.mono (by simp +contextual) (by simp +contextual) (by simp +contextual)), ArX.of n (k3.mono (by simp +contextual) (by simp +contextual) (by simp +contextual))⟩
/-- three areas of at most two, and the whole map -/
theorem three_X (x y z : List Rct) (hx : x.length ≤ 2) (hy : y.length ≤ 2) (hz : z.length ≤ 2) : ∃ X Y, Y.length * (X.length / 2) ≤ 100 ∧ ArX X Y (madeL x) (madeG x) ∧ ArX X Y (madeL y) (madeG y) ∧ ArX X Y (madeL z) (madeG z) ∧ ArX X Y [whR] (oneG whR) := by
  obtain ⟨X1, Y1, h1, h2, h3⟩ := madeL_X x
  obtain ⟨X2, Y2, k1, k2, k3⟩ := madeL_X y
  obtain ⟨X3, Y3, m1, m2, m3⟩ := madeL_X z
  have n : (Y1 ++ (Y2 ++ (Y3 ++ [0]))).length * ((X1 ++ (X2 ++ (X3 ++ [0, 64]))).length / 2) ≤ 100 := by
    simp only [List.length_append, List.length_cons, List.length_nil]
    exact mul_100 (m := 13) (n := 7) (by omega) (by omega) (by decide)
  refine ⟨_, _, n, ArX.of n (h3.mono (by simp +contextual) (by simp +contextual) (by simp +contextual)), ArX.of n (k3.mono (by simp +contextual) (by simp +contextual) (by simp +contextual)), ArX.of n (m3.mono (by simp +contextual) (by simp +contextual) (by simp +contextual)), ⟨few_whole.mono (by simp +contextual) (by simp +contextual) (by simp +contextual), Ar.whole⟩⟩
end Go.Proofs.YtplamgmmncenjaaDoorR
