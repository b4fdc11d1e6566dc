/- Plain numbers: the count of the bits of a number, as package math/bits reckons it, is the count. No program stands here. -/
import Derived.Test.YtplamgmmncenjaaDoorRP
namespace Go.Proofs.YtplamgmmncenjaaDoorR
open Go
/-- how many of the first n places are set -/
def popTo (n x : Nat) : Nat := (List.range n).countP fun i => x.testBit i
def pop (x : Nat) : Nat := popTo 64 x
theorem popTo_le (n x : Nat) : popTo n x ≤ n := by have := List.countP_le_length (p := fun i => x.testBit i) (l := List.range n); simpa [popTo] using this
def rep : Nat → Nat → Nat
  | 0, _ => 0
  | n + 1, v => 256 * rep n v + v
theorem and_byte (y b z c : Nat) (hb : b < 256) (hc : c < 256) : (256 * y + b) &&& (256 * z + c) = 256 * (y &&& z) + (b &&& c) := by
  have hbc : b &&& c < 256 := Nat.lt_of_le_of_lt Nat.and_le_left hb
  apply Nat.eq_of_testBit_eq; intro i
  have e : ∀ u v : Nat, v < 256 → (256 * u + v).testBit i = if i < 8 then v.testBit i else u.testBit (i - 8) := fun u v hv => Nat.testBit_two_pow_mul_add (i := 8) u hv i
  rw [Nat.testBit_and, e y b hb, e z c hc, e _ _ hbc]
  split <;> rw [Nat.testBit_and]
def s1 (n x : Nat) : Nat := (x / 2 &&& rep n 85) + (x &&& rep n 85)
def s2 (n x : Nat) : Nat := (x / 4 &&& rep n 51) + (x &&& rep n 51)
def s3 (n x : Nat) : Nat := (x / 16 + x) &&& rep n 15
def s1b (b : Nat) : Nat := (b / 2 &&& 85) + (b &&& 85)
def s2b (b : Nat) : Nat := (b / 4 &&& 51) + (b &&& 51)
theorem k1 : ∀ b : Fin 256, ∀ t : Fin 2, ((128 * t.val + b.val / 2) &&& 85) = (b.val / 2 &&& 85) := by decide +kernel
theorem k2 : ∀ b : Fin 256, ∀ t : Fin 4, ((64 * t.val + b.val / 4) &&& 51) = (b.val / 4 &&& 51) := by decide +kernel
theorem k3 : ∀ b : Fin 256, s1b b.val < 256 ∧ s2b (s1b b.val) ≤ 102 ∧ (s2b (s1b b.val) / 16 + s2b (s1b b.val)) % 16 = popTo 8 b.val := by decide +kernel
theorem s1_step (n y b : Nat) (hb : b < 256) : s1 (n + 1) (256 * y + b) = 256 * s1 n y + s1b b := by
  have e : (256 * y + b) / 2 = 256 * (y / 2) + (128 * (y % 2) + b / 2) := by omega
  have kk : ((128 * (y % 2) + b / 2) &&& 85) = (b / 2 &&& 85) := k1 ⟨b, hb⟩ ⟨y % 2, by omega⟩
  unfold s1 s1b
  rw [show rep (n + 1) 85 = 256 * rep n 85 + 85 from rfl, e, and_byte _ _ _ _ (by omega) (by omega), and_byte _ _ _ _ hb (by omega), kk]
  show _ = 256 * ((y / 2 &&& rep n 85) + (y &&& rep n 85)) + _
  omega
theorem s2_step (n y b : Nat) (hb : b < 256) : s2 (n + 1) (256 * y + b) = 256 * s2 n y + s2b b := by
  have e : (256 * y + b) / 4 = 256 * (y / 4) + (64 * (y % 4) + b / 4) := by omega
  have kk : ((64 * (y % 4) + b / 4) &&& 51) = (b / 4 &&& 51) := k2 ⟨b, hb⟩ ⟨y % 4, by omega⟩
  unfold s2 s2b
  rw [show rep (n + 1) 51 = 256 * rep n 51 + 51 from rfl, e, and_byte _ _ _ _ (by omega) (by omega), and_byte _ _ _ _ hb (by omega), kk]
  show _ = 256 * ((y / 4 &&& rep n 51) + (y &&& rep n 51)) + _
  omega
theorem and_mod16 (a b : Nat) : (a &&& b) % 16 = (a % 16) &&& (b % 16) := Nat.and_mod_two_pow (n := 4)
theorem s2_low (n x : Nat) : s2 n x % 16 ≤ 6 := by
  have hr : rep n 51 % 16 ≤ 3 := by
    cases n with
    | zero => simp [rep]
    | succ n => simp only [rep]; omega
  have h1 : (x / 4 &&& rep n 51) % 16 ≤ 3 := by rw [and_mod16]; exact Nat.le_trans Nat.and_le_right hr
  have h2 : (x &&& rep n 51) % 16 ≤ 3 := by rw [and_mod16]; exact Nat.le_trans Nat.and_le_right hr
  unfold s2; omega
theorem s3_step (n y b : Nat) (hb : b ≤ 102) (hy : y % 16 ≤ 6) : s3 (n + 1) (256 * y + b) = 256 * s3 n y + (b / 16 + b) % 16 := by
  have e : (256 * y + b) / 16 + (256 * y + b) = 256 * (y / 16 + y) + (16 * (y % 16) + (b / 16 + b)) := by omega
  have h15 : ∀ x : Nat, x &&& 15 = x % 16 := fun x => Nat.and_two_pow_sub_one_eq_mod x 4
  unfold s3
  rw [show rep (n + 1) 15 = 256 * rep n 15 + 15 from rfl, e, and_byte _ _ _ _ (by omega) (by omega), h15]
  show _ = 256 * ((y / 16 + y) &&& rep n 15) + _
  omega
def sw (n x : Nat) : Nat := s3 n (s2 n (s1 n x))
theorem sw_step (n y b : Nat) (hb : b < 256) : sw (n + 1) (256 * y + b) = 256 * sw n y + popTo 8 b := by
  obtain ⟨h1, h2, h3⟩ := k3 ⟨b, hb⟩
  unfold sw
  rw [s1_step _ _ _ hb, s2_step _ _ _ h1, s3_step _ _ _ h2 (s2_low _ _), h3]
theorem popTo_step (n y b : Nat) (hb : b < 256) : popTo (8 + n) (256 * y + b) = popTo 8 b + popTo n y := by
  unfold popTo
  rw [List.range_add, List.countP_append, List.countP_map]
  have e : ∀ i : Nat, (256 * y + b).testBit i = if i < 8 then b.testBit i else y.testBit (i - 8) := fun i => Nat.testBit_two_pow_mul_add (i := 8) y hb i
  congr 1
  · apply List.countP_congr
    intro i hi
    rw [e, if_pos (by simpa using hi)]
  · apply List.countP_congr
    intro i _
    show (256 * y + b).testBit (8 + i) = true ↔ _
    rw [e, if_neg (by omega), show 8 + i - 8 = i by omega]
/-- bytes, from the lowest on -/
theorem bytes_ex (x : Nat) : ∃ y b, b < 256 ∧ x = 256 * y + b := ⟨x / 256, x % 256, Nat.mod_lt _ (by decide), by omega⟩
def popN (x : Nat) : Nat :=
  let c := sw 8 x
  let d := c + c / 256
  let e := d + d / 65536
  (e + e / 4294967296) % 128
theorem add_digits (p0 p1 p2 p3 p4 p5 p6 p7 : Nat) (l0 : p0 ≤ 8) (l1 : p1 ≤ 8) (l2 : p2 ≤ 8) (l3 : p3 ≤ 8) (l4 : p4 ≤ 8) (l5 : p5 ≤ 8) (l6 : p6 ≤ 8) (l7 : p7 ≤ 8) :
    (let c := 256 * (256 * (256 * (256 * (256 * (256 * (256 * (256 * 0 + p7) + p6) + p5) + p4) + p3) + p2) + p1) + p0
     let d := c + c / 256
     let e := d + d / 65536
     (e + e / 4294967296) % 128) = p0 + (p1 + (p2 + (p3 + (p4 + (p5 + (p6 + (p7 + 0))))))) := by
  dsimp only
  obtain ⟨c, hc⟩ : ∃ c, c = 256 * (256 * (256 * (256 * (256 * (256 * (256 * (256 * 0 + p7) + p6) + p5) + p4) + p3) + p2) + p1) + p0 := ⟨_, rfl⟩
  rw [← hc]
  have h1 : c / 256 = 256 * (256 * (256 * (256 * (256 * (256 * p7 + p6) + p5) + p4) + p3) + p2) + p1 := by rw [hc]; omega
  obtain ⟨d, hd⟩ : ∃ d, d = c + c / 256 := ⟨_, rfl⟩
  rw [← hd]
  have hd' : d = 65536 * (256 * (256 * (256 * (256 * (256 * p7 + (p6 + p7)) + (p5 + p6)) + (p4 + p5)) + (p3 + p4)) + (p2 + p3)) + (256 * (p1 + p2) + (p0 + p1)) := by rw [hd, h1, hc]; omega
  have h2 : d / 65536 = 256 * (256 * (256 * (256 * (256 * p7 + (p6 + p7)) + (p5 + p6)) + (p4 + p5)) + (p3 + p4)) + (p2 + p3) := by
    rw [hd', Nat.mul_add_div (by decide), Nat.div_eq_of_lt (by omega)]; rfl
  obtain ⟨e, he⟩ : ∃ e, e = d + d / 65536 := ⟨_, rfl⟩
  rw [← he]
  have he' : e = 4294967296 * (256 * (256 * (256 * p7 + (p6 + p7)) + (p5 + p6 + p7)) + (p4 + p5 + p6 + p7)) + (16777216 * (p3 + p4 + p5 + p6) + 65536 * (p2 + p3 + p4 + p5) + 256 * (p1 + p2 + p3 + p4) + (p0 + p1 + p2 + p3)) := by rw [he, h2, hd']; omega
  have h3 : e / 4294967296 = 256 * (256 * (256 * p7 + (p6 + p7)) + (p5 + p6 + p7)) + (p4 + p5 + p6 + p7) := by
    rw [he', Nat.mul_add_div (by decide), Nat.div_eq_of_lt (by omega)]; rfl
  rw [h3, he']
  clear h1 h2 h3 hc hd hd' he he'
  omega
theorem popN_eq {x : Nat} (hx : x < 18446744073709551616) : popN x = pop x := by
  obtain ⟨x1, b0, h0, rfl⟩ := bytes_ex x
  obtain ⟨x2, b1, h1, rfl⟩ := bytes_ex x1
  obtain ⟨x3, b2, h2, rfl⟩ := bytes_ex x2
  obtain ⟨x4, b3, h3, rfl⟩ := bytes_ex x3
  obtain ⟨x5, b4, h4, rfl⟩ := bytes_ex x4
  obtain ⟨x6, b5, h5, rfl⟩ := bytes_ex x5
  obtain ⟨x7, b6, h6, rfl⟩ := bytes_ex x6
  obtain ⟨x8, b7, h7, rfl⟩ := bytes_ex x7
  obtain rfl : x8 = 0 := by omega
  have z : sw 0 0 = 0 := rfl
  have z0 : popTo 0 0 = 0 := rfl
  have e64 : pop = popTo (8 + (8 + (8 + (8 + (8 + (8 + (8 + (8 + 0)))))))) := rfl
  rw [e64, popTo_step _ _ _ h0, popTo_step _ _ _ h1, popTo_step _ _ _ h2, popTo_step _ _ _ h3, popTo_step _ _ _ h4, popTo_step _ _ _ h5, popTo_step _ _ _ h6, popTo_step _ _ _ h7, z0]
  unfold popN
  rw [sw_step _ _ _ h0, sw_step _ _ _ h1, sw_step _ _ _ h2, sw_step _ _ _ h3, sw_step _ _ _ h4, sw_step _ _ _ h5, sw_step _ _ _ h6, sw_step _ _ _ h7, z]
  have l0 := popTo_le 8 b0; have l1 := popTo_le 8 b1; have l2 := popTo_le 8 b2; have l3 := popTo_le 8 b3
  have l4 := popTo_le 8 b4; have l5 := popTo_le 8 b5; have l6 := popTo_le 8 b6; have l7 := popTo_le 8 b7
  generalize popTo 8 b0 = p0 at *; generalize popTo 8 b1 = p1 at *; generalize popTo 8 b2 = p2 at *; generalize popTo 8 b3 = p3 at *
  generalize popTo 8 b4 = p4 at *; generalize popTo 8 b5 = p5 at *; generalize popTo 8 b6 = p6 at *; generalize popTo 8 b7 = p7 at *
  clear hx h0 h1 h2 h3 h4 h5 h6 h7
  exact add_digits p0 p1 p2 p3 p4 p5 p6 p7 l0 l1 l2 l3 l4 l5 l6 l7
theorem rep8_85 : rep 8 85 = 6148914691236517205 := rfl
theorem rep8_51 : rep 8 51 = 3689348814741910323 := rfl
theorem rep8_15 : rep 8 15 = 1085102592571150095 := rfl
theorem pop_mask (q : Iv) : pop q.m = q.r - q.l := by
  have h1 := q.lt; have h2 := q.le
  have hm : ∀ i, q.m.testBit i = decide (q.l ≤ i ∧ i < q.r) := mask_bit (by omega)
  unfold pop popTo
  rw [show (64 : Nat) = q.l + ((q.r - q.l) + (64 - q.r)) by omega, List.range_add, List.countP_append, List.countP_map, List.range_add, List.countP_append, List.countP_map]
  rw [List.countP_eq_zero.2, List.countP_eq_length.2, List.countP_eq_zero.2]
  · simp
  · intro i _; simp [hm]; omega
  · intro i hi
    have hi' := List.mem_range.1 hi
    show q.m.testBit (q.l + i) = true
    rw [hm, dt (by omega)]
  · intro i hi
    have hi' := List.mem_range.1 hi
    simp [hm]; omega
end Go.Proofs.YtplamgmmncenjaaDoorR
