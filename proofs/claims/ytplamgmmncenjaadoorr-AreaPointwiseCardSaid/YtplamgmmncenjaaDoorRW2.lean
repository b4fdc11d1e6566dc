/- Walks of package area: has, intervals and its iterator. -/
import Derived.BigQuiet
import Derived.Deep.QuietTactic
import Derived.RangeFuncNested
import Derived.RangeFuncBound
import Derived.RangeFuncCalls
import Derived.RangeFuncLeaves
import Derived.Shelf.Abstract
import Derived.Shelf.RegionOpen
import Derived.OwnWalkIn
import Derived.TacticsInMore
import Derived.LoopNIn
import Derived.LoopIn
import Derived.Lib.Hide
import Derived.Test.YtplamgmmncenjaaDoorRL
import Derived.Test.YtplamgmmncenjaaDoorRW1
namespace Go.Proofs.YtplamgmmncenjaaDoorR
open Go.RowKit Go.Shelf
def hasAt (g : Grd) (y : Int) (q : Iv) : Bool := decide (0 ≤ y ∧ y < 64) && hasIv (g y.toNat) q
/-- has -/
theorem has_any (b : Nat) (g : Grd) (hg : g.ok) (q : Iv) (y : Int) (w : World) (hb : Blk w b 62 (gcells g)) :
    Calls Tryd.prog 51 #[.pointer (some ⟨b, 0, none⟩), .int .i64 y, .int .u64 (q.m : Int)] w fun e w' => e = .returned (.bool (hasAt g y q)) ∧ w = w' := by
  by_cases h0 : 0 ≤ y
  · by_cases h1 : y < 64
    · have hc : w.cell? ⟨b, y.toNat, none⟩ = some (.int .u64 (g y.toNat : Int)) := by rw [hb.cell, gcells_at _ _ (by omega)]
      have HB := Lib.hid hb
      clear hb
      go_enter Tryd.func51, Tryd.ntmps51
      go_wp2
      go_ret
      refine ⟨?_, rfl⟩
      show Ending.returned (.bool _) = _
      rw [has_int (hg _) q]
      simp [hasAt, h0, h1]
    · clear hb
      go_enter Tryd.func51, Tryd.ntmps51
      go_wp2
      go_ret
      refine ⟨?_, rfl⟩
      unfold hasAt; rw [df (by omega)]; rfl
  · clear hb
    go_enter Tryd.func51, Tryd.ntmps51
    go_wp2
    go_ret
    refine ⟨?_, rfl⟩
    unfold hasAt; rw [df (by omega)]; rfl
/-- intervals -/
theorem intervals_any (p : Nat) (w : World) :
    Calls Tryd.prog 50 #[.int .u64 (p : Int)] w fun e w' => e = .returned (.func (.func 53) #[] #[.pointer (some ⟨w.heap.size, 0, none⟩)]) ∧ w' = w.alloc (.cells #[.int .u64 (p : Int)] 59) := by
  go_enter Tryd.func50, Tryd.ntmps50
  go_wp2
  go_ret
  exact ⟨rfl, rfl⟩
set_option maxRecDepth 100000 in
set_option maxHeartbeats 1000000 in
/-- the iterator: all intervals of the row, in their order -/
theorem iter_in (F : Fence) (n : Nat) (hF : F.fn 53) (hro : F.round = none) (hn : 1 ≤ n) (l Bn p : Nat) (hp : p < 18446744073709551616) (J : List Iv → World → Prop)
    (hJ : ∀ s W u, J s W → J s (W.setCell ⟨Bn, 0, none⟩ u))
    (hY : ∀ pre x W, J pre W → pre.length < 64 → YieldAt F (n - 1) Tryd.prog l #[.int .u64 (x.m : Int)] W fun e W' => e = .returned (.bool true) ∧ J (pre ++ [x]) W' ∧ W'.heap[Bn]? = W.heap[Bn]?)
    (W : World) (hB : Blk W Bn 59 #[.int .u64 (p : Int)]) (h0 : J [] W) :
    CallsIn F n Tryd.prog 53 #[.func (.yield l) #[] #[], .pointer (some ⟨Bn, 0, none⟩)] W fun e W' => (∃ v, e = .returned v) ∧ J (ivs p) W' := by
  refine callsIn_of_wp Tryd.func53 rfl hF ?_ hro
  simp only [Tryd.ntmps53, List.size_toArray, List.length_cons, List.length_nil, Nat.reduceAdd, Nat.reduceSub, Array.replicate_succ, Array.replicate_zero, List.push_toArray, List.append_toArray, List.nil_append, List.cons_append]
  gi_wp2
  gi_loopw [3] (fun _ wr => ∃ pos : Nat, (pos = 0 ∨ p.testBit pos = false) ∧ pos ≤ 64 ∧ Blk wr Bn 59 #[.int .u64 (restFrom p pos : Int)] ∧ J (ivsTo p pos) wr)
    (fun _ wr => cellNat wr Bn)
  case atStart => exact ⟨0, .inl rfl, by omega, by rw [restFrom_zero]; exact hB, h0⟩
  case round =>
    obtain ⟨pos, hpos, h64, hB1, hJ1⟩ := hrel
    have hc : wr.cell? ⟨Bn, 0, none⟩ = some (.int .u64 (restFrom p pos : Int)) := by rw [hB1.cell]; rfl
    by_cases hz : restFrom p pos = 0
    · have hzb : ((restFrom p pos : Int) != 0) = false := by simp [hz]
      have hd := ivs_done h64 hz
      rw [hd] at hJ1
      clear hz hd hB1
      gi_wp2
      go_end0
      exact ⟨⟨_, rfl⟩, hJ1⟩
    · obtain ⟨q, hq1, hq2, hq3, hq4, hq5, hq6, hq7⟩ := iso_step hp hpos hz
      have hlt := restFrom_lt hp pos
      obtain ⟨fn, tmps, assign, body, hy, hR⟩ := hY _ q wr hJ1 (by have := ivsTo_len p pos; have := q.le; omega)
      have e13 := iso_int hlt
      rw [hq1] at e13
      have e20 : bits BinOp.andNot IntKind.u64 (restFrom p pos : Int) (q.m : Int) = (restFrom p q.r : Int) := by rw [u64_andNot_nat _ _ hlt q.m_lt, hq6]
      have hzb : ((restFrom p pos : Int) != 0) = true := by simp [hz]
      have HB := Lib.hid hB1
      have HQ := Lib.hid hq2
      clear hB1 hq1 hq2 hq6 hpos hz
      gi_wp2
      refine hR.mono ?_
      rintro e W3 ⟨rfl, hJ3, hk3⟩
      have hB3 : Blk W3 Bn 59 #[.int .u64 (restFrom p pos : Int)] := hk3.trans HB.out
      have hc3 : W3.cell? ⟨Bn, 0, none⟩ = some (.int .u64 (restFrom p pos : Int)) := by rw [hB3.cell]; rfl
      have hf3 := hB3.frozen 0
      have HB3 := Lib.hid hB3
      clear hB3 hk3
      gi_wp2
      go_roundw
      case rel => exact ⟨q.r, .inr hq4, q.le, by have := HB3.out.set_ 0 (.int .u64 (restFrom p q.r : Int)); exact this, by rw [HQ.out]; exact hJ _ _ _ hJ3⟩
      case measure =>
        have h1 := cellNat_eq HB.out
        have h2 := cellNat_eq (HB3.out.set_ 0 (.int .u64 (restFrom p q.r : Int)))
        rw [h1]
        exact Nat.lt_of_le_of_lt (Nat.le_of_eq h2) hq7
end Go.Proofs.YtplamgmmncenjaaDoorR
