/- Walks of the small functions of package area: isRect, row, fill. -/
import Derived.BigQuiet
import Derived.Deep.QuietTactic
import Derived.Lib.Hide
import Derived.Test.YtplamgmmncenjaaDoorRM
import Derived.Test.YtplamgmmncenjaaDoorRP
import Derived.Test.YtplamgmmncenjaaDoorRR
import Derived.Test.YtplamgmmncenjaaDoorRProg
namespace Go.Proofs.YtplamgmmncenjaaDoorR
open Go.RowKit
def Rct.v (q : Rct) : Value := .agg #[.int .i64 q.l, .int .i64 q.r, .int .i64 q.lo, .int .i64 q.hi]
def gcells (g : Grd) : Array Value := Array.ofFn (n := 64) fun i => .int .u64 (g i)
theorem gcells_at (g : Grd) (i : Nat) (h : i < 64) : (gcells g)[i]? = some (.int .u64 (g i)) := by simp [gcells, h]
/-- isRect -/
theorem isRect_any (q : Rct) (w : World) :
    Calls Tryd.prog 49 #[.agg #[.int .i64 q.l, .int .i64 q.r, .int .i64 q.lo, .int .i64 q.hi]] w fun e w' => e = .returned (.bool (okR q)) ∧ w' = w.alloc (.cells #[.int .i64 q.l, .int .i64 q.r, .int .i64 q.lo, .int .i64 q.hi] 36) := by
  go_enter Tryd.func49, Tryd.ntmps49
  go_wp2
  all_goals (go_ret; refine ⟨?_, rfl⟩)
  all_goals (simp [okR]; try omega)
  all_goals simp [*]
/-- row -/
theorem row_any (l r : Int) (w : World) (h0 : 0 ≤ l) (h1 : l < r) (h2 : r ≤ 64) :
    Calls Tryd.prog 45 #[.int .i64 l, .int .i64 r] w fun e w' => e = .returned (.int .u64 ((mask l.toNat r.toNat : Nat) : Int)) ∧ ∃ n, w' = w.drewN n := by
  go_enter Tryd.func45, Tryd.ntmps45
  go_wp2
  go_quiet (fail)
  go_wp2
  go_ret
  refine ⟨?_, _, rfl⟩
  show Ending.returned (.int .u64 _) = _
  rw [row_int l r h0 h1 h2]
theorem gcells_set (g g' : Grd) (k : Nat) (v : Int) (hv : v = g' k) (h : ∀ i, i < 64 → i ≠ k → g' i = g i) : (gcells g).setIfInBounds k (.int .u64 v) = gcells g' := by
  apply Array.ext
  · simp [gcells]
  · intro i h1 h2
    have hi : i < 64 := by simpa [gcells] using h2
    rw [Array.getElem_setIfInBounds]
    · split
      · rename_i e; subst e; simp [gcells, hv]
      · rename_i e; simp [gcells, h i hi (fun e' => e e'.symm)]
    · simpa [gcells] using hi
theorem fill_step {g : Grd} {q : Rct} {b : Nat} {t : TypeId} {w : World} (k : Nat) (h1 : q.lo ≤ k) (hg : g.ok) (hr : q.r ≤ 64) (hB : Blk w b t (gcells (fillTo g q k))) (n : Nat) :
    Blk ((w.drewN n).setCell ⟨b, k, none⟩ (.int .u64 (bits BinOp.or IntKind.u64 (fillTo g q k k) ((mask q.l.toNat q.r.toNat : Nat) : Int)))) b t (gcells (fillTo g q (k + 1))) := by
  have := (hB.drewN n).set_ k (.int .u64 (bits BinOp.or IntKind.u64 (fillTo g q k k) ((mask q.l.toNat q.r.toNat : Nat) : Int)))
  rwa [gcells_set _ (fillTo g q (k + 1)) k] at this
  · have hk : fillTo g q k k = g k := by unfold fillTo; rw [if_neg (by omega)]
    have hk' : fillTo g q (k + 1) k = g k ||| mask q.l.toNat q.r.toNat := by unfold fillTo; rw [if_pos ⟨h1, by omega⟩]
    rw [hk, hk', u64_or_nat _ _ (hg k) (mask_lt (by omega))]
  · intro i hi hik
    unfold fillTo
    by_cases hc : q.lo ≤ i ∧ (i : Int) < k
    · rw [if_pos hc, if_pos (by omega)]
    · rw [if_neg hc, if_neg (by omega)]
set_option maxHeartbeats 1000000 in
/-- fill -/
theorem fill_any (b : Nat) (g : Grd) (hg : g.ok) (q : Rct) (hq : okR q = true) (w : World) (hb : Blk w b 62 (gcells g)) :
    Calls Tryd.prog 35 #[.pointer (some ⟨b, 0, none⟩), .agg #[.int .i64 q.l, .int .i64 q.r, .int .i64 q.lo, .int .i64 q.hi]] w fun e w' => e = .returned (.tuple #[]) ∧ Blk w' b 62 (gcells (fillG g q)) ∧ w.grownBy w' (some b) := by
  obtain ⟨k1, k2, k3, k4, k5, k6⟩ := okR_parts hq
  go_enter Tryd.func35, Tryd.ntmps35
  go_wp2
  have hbl := hb.lt
  go_loopw [4] (fun y wr => ∃ k : Nat, q.lo ≤ k ∧ (k : Int) ≤ q.hi ∧ y = .int .i64 k ∧ Blk wr b 62 (gcells (fillTo g q k)) ∧ (w.alloc (.cells #[.int .i64 q.l, .int .i64 q.r, .int .i64 q.lo, .int .i64 q.hi] 36)).grownBy wr (some b))
    (fun y _ => (q.hi - intOf y).toNat)
  case atStart => exact ⟨q.lo.toNat, by omega, by omega, by congr 1; omega, by rw [fillTo_start _ _ k4]; exact hb.alloc _, gb_refl _ _⟩
  case round =>
    obtain ⟨k, hk1, hk2, rfl, hB, hG⟩ := hrel
    have hcc : ∀ i, wr.cell? ⟨w.heap.size, i, none⟩ = (w.alloc (.cells #[.int .i64 q.l, .int .i64 q.r, .int .i64 q.lo, .int .i64 q.hi] 36)).cell? ⟨w.heap.size, i, none⟩ := fun i => gb_cell hG (by simp) (by simp; omega)
    have c2 : wr.cell? ⟨w.heap.size, 3, none⟩ = some (.int .i64 q.hi) := by rw [hcc]; simp
    have c0 : wr.cell? ⟨w.heap.size, 0, none⟩ = some (.int .i64 q.l) := by rw [hcc]; simp
    have c1 : wr.cell? ⟨w.heap.size, 1, none⟩ = some (.int .i64 q.r) := by rw [hcc]; simp
    clear hcc
    have hfz := hB.frozen k
    by_cases hlt : (k : Int) < q.hi
    · have hk64 : wr.cell? ⟨b, k, none⟩ = some (.int .u64 (fillTo g q k k)) := by
        rw [hB.cell, gcells_at _ _ (by omega)]
      have HB := Lib.hid hB
      clear hB
      go_wp2
      refine region_quiet_tail_lit 13 (by kernel_rfl) (by kernel_rfl) ?_
      simp only [List.take_succ_cons, List.take_zero, List.drop_succ_cons, List.drop_zero]
      repeat (go_big_quiet_step ((go_at_call 45; exact Calls.quiet_of (row_any _ _ _ k1 k2 k3))))
      refine wpQuiet_nil ?_
      intro _ hw'
      obtain ⟨nq, hw''⟩ := hw'
      subst hw''
      go_wp2
      go_roundw
      case rel => exact ⟨k + 1, by omega, by omega, by go_num, fill_step k hk1 hg k3 HB.out nq, gb_setCell (gb_drewN hG nq) (.inl rfl) _⟩
      case measure => simp [intOf]; omega
    · clear hfz
      have HB := Lib.hid hB
      clear hB
      obtain rfl : k = q.hi.toNat := by omega
      go_wp2
      go_end0
      exact ⟨rfl, HB.out, gb_trans (gb_alloc (gb_refl _ _) _) hG⟩
end Go.Proofs.YtplamgmmncenjaaDoorR
