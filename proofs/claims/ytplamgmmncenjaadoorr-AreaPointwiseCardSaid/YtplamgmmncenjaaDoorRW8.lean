/- Walks of package area: Within, Size, Whole. -/
import Derived.Test.YtplamgmmncenjaaDoorRW7
namespace Go.Proofs.YtplamgmmncenjaaDoorR
open Go.RowKit
def subTo (g h : Grd) (k : Nat) : Prop := ∀ i, i < k → minusN (g i) (h i) = 0
def subG (g h : Grd) : Bool := (List.range 64).all fun y => minusN (g y) (h y) == 0
theorem subG_iff (g h : Grd) : subG g h = true ↔ subTo g h 64 := by simp [subG, subTo]
def withinL (a b : List Rct) : Bool := subG (openV a) (openV b) && (validL a && validL b)
theorem mono0 {w W W1 : World} (cs1 cs2 : Array Value) (t : TypeId) (h1 : Below w.heap.size w W) (h2 : Below W.heap.size W W1) : Below w.heap.size w ((W1.alloc (.cells cs1 t)).setRow W1.heap.size cs2) :=
  below_setRow ((h1.trans (h2.mono h1.size)).alloc (Nat.le_trans h1.size h2.size) _) (Nat.le_trans h1.size h2.size) _
set_option maxRecDepth 100000 in
set_option maxHeartbeats 2000000 in
/-- Within -/
theorem within_any (a b : List Rct) (va vb : Value) (w : World) (ha : SlR w va a) (hb : SlR w vb b) (hT : HasTab w) :
    Calls Tryd.prog 27 #[va, vb] w fun e w' => e = .returned (.bool (withinL a b)) ∧ Below w.heap.size w w' := by
  have HA := Lib.hid ha
  have HBB := Lib.hid hb
  have HT := Lib.hid hT
  obtain ⟨A, c, rfl, _, _, _⟩ := ha.form
  obtain ⟨A', c', rfl, _, _, _⟩ := hb.form
  clear ha hb hT
  obtain ⟨va, hva⟩ : ∃ va, va = validL a := ⟨_, rfl⟩
  obtain ⟨vb, hvb⟩ : ∃ vb, vb = validL b := ⟨_, rfl⟩
  have oa := open_any a _ w HA.out HT.out
  rw [← hva] at oa
  have OA := Lib.hid oa
  have HVA := Lib.hid hva
  have HVB := Lib.hid hvb
  clear oa hva hvb
  go_enter Tryd.func27, Tryd.ntmps27
  go_wp2_with (fail)
  refine OA.out.mono ?_
  rintro e w1 ⟨rfl, hb1⟩
  have HB1 := Lib.hid hb1
  clear hb1
  go_wp2_with (refine wpList_store_row rfl 62 _ _ rfl _ (gcells (openV a)) (by rfl) (by rfl) 62 (gcells g0) (Blk.new _ _ _) (grid_size _) (by rw [gcells_size, gcells_size]) (gcells_one _) ?_)
  generalize hW1 : World.setRow _ _ _ = W1
  have hbw1 : Below w.heap.size w W1 := by rw [← hW1]; exact mono0 _ _ _ (Below.refl _ _) HB1.out
  have b8 : Blk W1 w1.heap.size 62 (gcells (openV a)) := by rw [← hW1]; exact (Blk.new w1 _ (gcells g0)).row_same _
  have HW1 := Lib.hid hbw1
  have B8 := Lib.hid b8
  clear hW1 hbw1 b8
  have ob := open_any b _ W1 (HBB.out.below HW1.out) (HT.out.below HW1.out)
  rw [← HVB.out] at ob
  refine ob.mono ?_
  rintro e w2 ⟨rfl, hb2⟩
  have HB2 := Lib.hid hb2
  clear hb2 ob
  go_wp2_with (refine wpList_store_row rfl 62 _ _ rfl _ (gcells (openV b)) (by rfl) (by rfl) 62 (gcells g0) (Blk.new _ _ _) (grid_size _) (by rw [gcells_size, gcells_size]) (gcells_one _) ?_)
  generalize hW2 : World.setRow _ _ _ = W2
  have hbw2 : Below w.heap.size w W2 := by rw [← hW2]; exact mono0 _ _ _ HW1.out HB2.out
  have b10 : Blk W2 w2.heap.size 62 (gcells (openV b)) := by rw [← hW2]; exact (Blk.new w2 _ (gcells g0)).row_same _
  have hlt8 : w1.heap.size < w2.heap.size := Nat.lt_of_lt_of_le B8.out.lt HB2.out.size
  have b8' : Blk W2 w1.heap.size 62 (gcells (openV a)) := by rw [← hW2]; exact ((B8.out.below HB2.out B8.out.lt).alloc _).row_far (Nat.ne_of_lt hlt8) _
  have HW2 := Lib.hid hbw2
  clear hW2 hbw2
  obtain ⟨p8, hp8⟩ : ∃ p, p = w1.heap.size := ⟨_, rfl⟩
  obtain ⟨p10, hp10⟩ : ∃ p, p = w2.heap.size := ⟨_, rfl⟩
  obtain ⟨G, hG⟩ : ∃ G, G = openV a := ⟨_, rfl⟩
  obtain ⟨K, hK⟩ : ∃ K, K = openV b := ⟨_, rfl⟩
  have hGo : G.ok := by rw [hG]; exact openV_ok a
  have hKo : K.ok := by rw [hK]; exact openV_ok b
  rw [← hp8, ← hG] at b8'
  rw [← hp10, ← hK] at b10
  rw [← hp8, ← hp10, ← hG, ← hK]
  have B8' := Lib.hid b8'
  have B10 := Lib.hid b10
  have HG := Lib.hid hG
  have HK := Lib.hid hK
  have HGO := Lib.hid hGo
  have HKO := Lib.hid hKo
  clear hG hK hGo hKo b8' b10 hp8 hp10 hlt8
  go_loopw [9, 20] (fun _ i wr => ∃ k : Nat, k ≤ 64 ∧ i = .int .i64 (k : Int) ∧ (∃ n, wr = W2.drewN n) ∧ Hid (subTo G K k)) (fun _ i _ => 64 - (intOf i).toNat)
  case atStart => exact ⟨0, by omega, rfl, ⟨0, rfl⟩, fun i hi => by omega⟩
  case round =>
    obtain ⟨k, hk, rfl, ⟨n, rfl⟩, hs⟩ := hrel
    by_cases hlt : (k : Int) < 64
    · have c8 : W2.cell? ⟨p8, k, none⟩ = some (.int .u64 ((G k : Nat) : Int)) := by rw [B8'.out.cell, gcells_at _ _ (by omega)]
      have c10 : W2.cell? ⟨p10, k, none⟩ = some (.int .u64 ((K k : Nat) : Int)) := by rw [B10.out.cell, gcells_at _ _ (by omega)]
      have i0 : (0 : Int) ≤ (k : Int) := by omega
      have e1 : bits BinOp.andNot IntKind.u64 ((G k : Nat) : Int) ((K k : Nat) : Int) = ((minusN (G k) (K k) : Nat) : Int) := u64_andNot_nat _ _ (HGO.out k) (HKO.out k)
      by_cases hz : minusN (G k) (K k) = 0
      · have e2 : (((minusN (G k) (K k) : Nat) : Int) != 0) = false := by simp [hz]
        have HZ := Lib.hid hz
        clear hz
        go_wp2
        go_quiet (fail)
        go_wp2
        go_roundw
        case rel => exact ⟨k + 1, by omega, by go_num, ⟨n + nq, by first | rfl | rw [World.drewN_drewN]⟩, fun i hi => by
          by_cases e : i = k
          · subst e; exact HZ.out
          · exact hs.out i (by omega)⟩
        case measure => simp [intOf]; omega
      · have e2 : (((minusN (G k) (K k) : Nat) : Int) != 0) = true := by simp [hz]
        have HZ := Lib.hid hz
        clear hz
        go_wp2
        go_quiet (fail)
        go_wp2
        go_ret
        refine ⟨?_, below_drewN (below_drewN HW2.out _) _⟩
        have : withinL a b = false := by
          unfold withinL
          rw [← HG.out, ← HK.out]
          cases h : subG G K
          · rfl
          · exact absurd ((subG_iff _ _).1 h k (by omega)) HZ.out
        rw [this]; rfl
    · obtain rfl : k = 64 := by omega
      clear hlt hk
      have hw : withinL a b = (va && vb) := by
        unfold withinL
        rw [← HG.out, ← HK.out, (subG_iff _ _).2 hs.out, ← HVA.out, ← HVB.out]; rfl
      have HWI := Lib.hid hw
      clear hw
      cases va
      · go_wp2
        go_ret
        exact ⟨by rw [HWI.out]; rfl, below_drewN HW2.out _⟩
      · go_wp2
        go_ret
        exact ⟨by rw [HWI.out]; simp, below_drewN HW2.out _⟩
/-- Whole -/
theorem whole_any (w : World) :
    Calls Tryd.prog 25 #[] w fun e w' => ∃ v, e = .returned v ∧ SlR w' v [⟨0, 64, 0, 64⟩] ∧ Below w.heap.size w w' := by
  go_enter Tryd.func25, Tryd.ntmps25
  go_wp2
  go_ret
  refine ⟨_, rfl, ?_, (Below.refl _ _).alloc (Nat.le_refl _) _⟩
  refine ⟨rfl, _, _, rfl, by simp, by unfold maxLen; omega, fun _ => ⟨_, 0, rfl, by simp, fun j u hu => ?_⟩⟩
  rw [(Blk.new w _ _).cell, Nat.zero_add, List.getElem?_toArray]
  exact hu
def popSum (g : Grd) (k : Nat) : Nat := ((List.range k).map fun i => pop (g i)).sum
theorem popSum_succ (g : Grd) (k : Nat) : popSum g (k + 1) = popSum g k + pop (g k) := by simp [popSum, List.range_succ]
theorem popSum_le (g : Grd) (k : Nat) : popSum g k ≤ 64 * k := by
  induction k with
  | zero => simp [popSum]
  | succ k ih => rw [popSum_succ]; have := popTo_le 64 (g k); unfold pop; omega
def sizeL (l : List Rct) : Nat := popSum (openV l) 64
theorem index_grid (g : Grd) (k : Nat) (hk : k < 64) (w : World) : (Instr.index 62 (.agg (gcells g)) (.int .i64 (k : Int))).run Tryd.prog w = .ok (.int .u64 (g k : Int)) w := by
  have h3 := gcells_at g k hk
  simp [Instr.index, go_sem, hk]
  rw [h3]; rfl
set_option maxRecDepth 100000 in
set_option maxHeartbeats 1000000 in
/-- Size -/
theorem size_any (l : List Rct) (v : Value) (w : World) (h : SlR w v l) (hT : HasTab w) :
    Calls Tryd.prog 23 #[v] w fun e w' => e = .returned (.int .i64 (sizeL l : Int)) ∧ Below w.heap.size w w' := by
  have H := Lib.hid h
  have HT := Lib.hid hT
  obtain ⟨A, c, rfl, _, _, _⟩ := h.form
  clear h hT
  go_enter Tryd.func23, Tryd.ntmps23
  go_wp2_with (fail)
  refine (open_any l _ w H.out HT.out).mono ?_
  rintro e w1 ⟨rfl, hb1⟩
  have HB1 := Lib.hid hb1
  clear hb1
  obtain ⟨G, hG⟩ : ∃ G, G = openV l := ⟨_, rfl⟩
  have hGo : G.ok := by rw [hG]; exact openV_ok l
  rw [← hG]
  have HG := Lib.hid hG
  have HGO := Lib.hid hGo
  clear hG hGo
  go_wp2_with (first | (refine wpList_store_row rfl 62 _ _ rfl _ (gcells G) (by rfl) (by rfl) 62 (gcells g0) (Blk.new _ _ _) (grid_size _) (by rw [gcells_size, gcells_size]) (gcells_one _) ?_) | (refine wpList_load_row rfl 62 _ rfl w1.heap.size (by rfl) 62 (gcells G) (0, 0) _ ((Blk.new w1 _ (gcells g0)).row_same _) Tryd.underlying62 rfl (grid_size _) ?_))
  generalize hW2 : World.setRow _ _ _ = W2
  have hbw2 : Below w.heap.size w W2 := by rw [← hW2]; exact mono0 _ _ _ (Below.refl _ _) HB1.out
  have HW2 := Lib.hid hbw2
  clear hW2 hbw2
  go_loop [5, 7, 14] (fun n _ i => ∃ k : Nat, k ≤ 64 ∧ i = .int .i64 (k : Int) ∧ n = .int .i64 (popSum G k : Int)) (fun _ _ i => 64 - (intOf i).toNat)
  case atStart => exact ⟨0, by omega, rfl, rfl⟩
  case round =>
    obtain ⟨k, hk, rfl, rfl⟩ := hrel
    by_cases hlt : (k : Int) < 64
    · have hidx := fun W => index_grid G k (by omega) W
      have i0 : (0 : Int) ≤ (k : Int) := by omega
      have hp1 := popSum_le G k
      have hp2 := popTo_le 64 (G k)
      have hp3 : pop (G k) ≤ 64 := hp2
      have hp4 : popSum G k ≤ 4096 := by omega
      clear hp1 hp2
      go_wp2_with (go_at_call 41; refine (ones_any _ (HGO.out k) _).mono ?_; rintro e w' ⟨rfl, rfl⟩)
      go_round
      case rel => exact ⟨k + 1, by omega, by go_num, by rw [popSum_succ]; go_num⟩
      case measure => simp [intOf]; omega
    · obtain rfl : k = 64 := by omega
      clear hlt hk
      go_wp2
      go_ret
      refine ⟨?_, HW2.out⟩
      unfold sizeL
      rw [← HG.out]; rfl
end Go.Proofs.YtplamgmmncenjaaDoorR
