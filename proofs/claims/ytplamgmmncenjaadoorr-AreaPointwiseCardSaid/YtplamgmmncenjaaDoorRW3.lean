/- Walks: trailing zeros and counts of bits (math/bits). -/
import Derived.BigQuiet
import Derived.Deep.QuietTactic
import Derived.Lib.Hide
import Derived.Test.YtplamgmmncenjaaDoorRP
import Derived.Test.YtplamgmmncenjaaDoorRP2
import Derived.Test.YtplamgmmncenjaaDoorRM
import Derived.Test.YtplamgmmncenjaaDoorRProg
namespace Go.Proofs.YtplamgmmncenjaaDoorR
open Go.RowKit
/-- the table of package math/bits -/
def tabL : List Nat := [0, 1, 56, 2, 57, 49, 28, 3, 61, 58, 42, 50, 38, 29, 17, 4, 62, 47, 59, 36, 45, 43, 51, 22, 53, 39, 33, 30, 24, 18, 12, 5, 63, 55, 48, 27, 60, 41, 37, 16, 46, 35, 44, 21, 52, 32, 23, 11, 54, 26, 40, 15, 34, 20, 31, 10, 25, 14, 19, 9, 13, 8, 7, 6]
def HasTab (w : World) : Prop := ∀ i, i < 64 → w.cell? ⟨0, i, none⟩ = some (.int .u8 ((tabL.getD i 0 : Nat) : Int))
theorem HasTab.lt {w : World} (h : HasTab w) : 0 < w.heap.size := block_lt_of_cell (h 0 (by decide))
theorem HasTab.below {w w' : World} (h : HasTab w) (hb : Below w.heap.size w w') : HasTab w' := fun i hi => (hb.cell (p := ⟨_, i, none⟩) h.lt).trans (h i hi)
def tzI (l : Nat) : Nat := 2 ^ l * 285870213051353865 % 18446744073709551616 / 288230376151711744
theorem tz_tab : ∀ l : Fin 64, tzI l.val < 64 ∧ tabL.getD (tzI l.val) 0 = l.val := by decide +kernel
theorem low_mask (q : Iv) : q.m &&& (18446744073709551616 - q.m) % 18446744073709551616 = 2 ^ q.l := by
  have h1 := q.lt
  refine low_and q.m_lt ?_ (fun i hi => ?_)
  · show (mask q.l q.r).testBit q.l = true
    rw [mask_bit (by omega), dt (by omega)]
  · show (mask q.l q.r).testBit i = false
    rw [mask_bit (by omega), df (by omega)]
theorem m_pos (q : Iv) : q.m ≠ 0 := by
  intro h
  have := low_mask q
  rw [h] at this
  have := Nat.two_pow_pos q.l
  simp at *
  omega
theorem tz_e8 (q : Iv) : bits BinOp.and IntKind.u64 (q.m : Int) (IntKind.u64.wrap (-(q.m : Int))) = ((2 ^ q.l : Nat) : Int) := by
  rw [u64wrap_neg q.m_lt, u64_and_nat _ _ q.m_lt (Nat.mod_lt _ (by decide)), low_mask]
theorem tz_e10 (x : Nat) : IntKind.u64.wrap ((x : Int) * 285870213051353865) / 288230376151711744 = ((x * 285870213051353865 % 18446744073709551616 / 288230376151711744 : Nat) : Int) := by
  rw [show (x : Int) * 285870213051353865 = ((x * 285870213051353865 : Nat) : Int) by simp, u64wrap_nat]; simp
/-- TrailingZeros64, the walk alone -/
theorem tz_walk (m x k t : Nat) (w : World) (hz : ((m : Int) == 0) = false) (e8 : bits BinOp.and IntKind.u64 (m : Int) (IntKind.u64.wrap (-(m : Int))) = (x : Int))
    (e10 : IntKind.u64.wrap ((x : Int) * 285870213051353865) / 288230376151711744 = (k : Int)) (b1 : (k : Int) < 64) (hc : w.cell? ⟨0, k, none⟩ = some (.int .u8 (t : Int))) (ht : t < 256) :
    Calls Tryd.prog 52 #[.int .u64 (m : Int)] w fun e w' => e = .returned (.int .i64 (t : Int)) ∧ w = w' := by
  have b0 : (0 : Int) ≤ (k : Int) := by omega
  go_enter Tryd.func52, Tryd.ntmps52
  go_wp2
  go_ret
  exact ⟨rfl, rfl⟩
/-- TrailingZeros64 of an interval: its first place -/
theorem tz_any (q : Iv) (w : World) (hT : HasTab w) :
    Calls Tryd.prog 52 #[.int .u64 (q.m : Int)] w fun e w' => e = .returned (.int .i64 (q.l : Int)) ∧ w = w' := by
  have hl : q.l < 64 := by have := q.lt; have := q.le; omega
  have h := tz_tab ⟨q.l, hl⟩
  have hc := hT _ h.1
  rw [h.2] at hc
  refine tz_walk q.m (2 ^ q.l) (tzI q.l) q.l w ?_ (tz_e8 q) (tz_e10 _) ?_ hc (by omega)
  · have := m_pos q; simp; omega
  · exact Int.ofNat_lt.2 h.1
/-- OnesCount64, the walk alone -/
theorem ones_walk (x a1 a2 b1 b2 c f : Nat) (w : World) (k1 : a1 ≤ 6148914691236517205) (k2 : a2 ≤ 6148914691236517205) (k3 : b1 ≤ 3689348814741910323) (k4 : b2 ≤ 3689348814741910323) (k5 : c ≤ 1085102592571150095)
    (h1 : bits BinOp.and IntKind.u64 ((x : Int) / 2) 6148914691236517205 = (a1 : Int)) (h2 : bits BinOp.and IntKind.u64 (x : Int) 6148914691236517205 = (a2 : Int))
    (h3 : bits BinOp.and IntKind.u64 (((a1 : Int) + (a2 : Int)) / 4) 3689348814741910323 = (b1 : Int)) (h4 : bits BinOp.and IntKind.u64 ((a1 : Int) + (a2 : Int)) 3689348814741910323 = (b2 : Int))
    (h5 : bits BinOp.and IntKind.u64 (((b1 : Int) + (b2 : Int)) / 16 + ((b1 : Int) + (b2 : Int))) 1085102592571150095 = (c : Int))
    (h6 : bits BinOp.and IntKind.i64 ((c : Int) + (c : Int) / 256 + ((c : Int) + (c : Int) / 256) / 65536 + ((c : Int) + (c : Int) / 256 + ((c : Int) + (c : Int) / 256) / 65536) / 4294967296) 127 = (f : Int)) :
    Calls Tryd.prog 41 #[.int .u64 (x : Int)] w fun e w' => e = .returned (.int .i64 (f : Int)) ∧ w = w' := by
  go_enter Tryd.func41, Tryd.ntmps41
  go_wp2
  go_ret
  exact ⟨rfl, rfl⟩
theorem i64_and127 (a : Nat) (ha : a < 9223372036854775808) : bits .and .i64 (a : Int) 127 = ((a % 128 : Nat) : Int) := by
  have hx : a % 128 < 128 := Nat.mod_lt _ (by decide)
  show IntKind.i64.wrap ((BitVec.ofInt 64 (a : Int) &&& BitVec.ofInt 64 127).toNat : Int) = _
  have e : (BitVec.ofInt 64 (a : Int)).toNat = a := by
    rw [BitVec.ofInt_natCast, BitVec.toNat_ofNat]; exact Nat.mod_eq_of_lt (by omega)
  have e2 : (BitVec.ofInt 64 127).toNat = 2 ^ 7 - 1 := by decide
  rw [BitVec.toNat_and, e, e2, Nat.and_two_pow_sub_one_eq_mod, IntKind.wrap_i64]
  omega
/-- OnesCount64 is the count of the bits -/
theorem ones_any (x : Nat) (hx : x < 18446744073709551616) (w : World) :
    Calls Tryd.prog 41 #[.int .u64 (x : Int)] w fun e w' => e = .returned (.int .i64 (pop x : Int)) ∧ w = w' := by
  have g : ∀ a b : Nat, a < 18446744073709551616 → b < 18446744073709551616 → bits BinOp.and IntKind.u64 (a : Int) (b : Int) = ((a &&& b : Nat) : Int) := fun a b ha hb => u64_and_nat a b ha hb
  have c1 : (x / 2 &&& rep 8 85) ≤ 6148914691236517205 := by rw [rep8_85]; exact Nat.and_le_right
  have c2 : (x &&& rep 8 85) ≤ 6148914691236517205 := by rw [rep8_85]; exact Nat.and_le_right
  have c3 : (s1 8 x / 4 &&& rep 8 51) ≤ 3689348814741910323 := by rw [rep8_51]; exact Nat.and_le_right
  have c4 : (s1 8 x &&& rep 8 51) ≤ 3689348814741910323 := by rw [rep8_51]; exact Nat.and_le_right
  have c5 : sw 8 x ≤ 1085102592571150095 := by unfold sw s3; rw [rep8_15]; exact Nat.and_le_right
  have b1 : s1 8 x < 18446744073709551616 := by unfold s1; omega
  have b2 : s2 8 (s1 8 x) ≤ 7378697629483820646 := by unfold s2; omega
  refine ones_walk x (x / 2 &&& rep 8 85) (x &&& rep 8 85) (s1 8 x / 4 &&& rep 8 51) (s1 8 x &&& rep 8 51) (sw 8 x) (pop x) w c1 c2 c3 c4 c5 ?_ ?_ ?_ ?_ ?_ ?_
  · have := g (x / 2) 6148914691236517205 (by omega) (by decide)
    rw [rep8_85]; simpa using this
  · have := g x 6148914691236517205 hx (by decide)
    rw [rep8_85]; simpa using this
  · have := g (s1 8 x / 4) 3689348814741910323 (by omega) (by decide)
    rw [rep8_51, show (((x / 2 &&& rep 8 85 : Nat) : Int) + ((x &&& rep 8 85 : Nat) : Int)) = ((s1 8 x : Nat) : Int) by unfold s1; omega]; simpa using this
  · have := g (s1 8 x) 3689348814741910323 b1 (by decide)
    rw [rep8_51, show (((x / 2 &&& rep 8 85 : Nat) : Int) + ((x &&& rep 8 85 : Nat) : Int)) = ((s1 8 x : Nat) : Int) by unfold s1; omega]; simpa using this
  · have := g (s2 8 (s1 8 x) / 16 + s2 8 (s1 8 x)) 1085102592571150095 (by omega) (by decide)
    rw [show (((s1 8 x / 4 &&& rep 8 51 : Nat) : Int) + ((s1 8 x &&& rep 8 51 : Nat) : Int)) = ((s2 8 (s1 8 x) : Nat) : Int) by unfold s2; omega]
    unfold sw s3; rw [rep8_15]; simpa using this
  · have h := popN_eq hx
    unfold popN at h
    dsimp only at h
    obtain ⟨c, hc⟩ : ∃ c, c = sw 8 x := ⟨_, rfl⟩
    rw [← hc] at h c5 ⊢
    have e := i64_and127 (c + c / 256 + (c + c / 256) / 65536 + (c + c / 256 + (c + c / 256) / 65536) / 4294967296) (by omega)
    rw [h] at e
    rw [← e]
    congr 1
end Go.Proofs.YtplamgmmncenjaaDoorR
