/- Walks of package area: Valid, Union, Common, Minus, Within, Size, Whole, Grow, Of. -/
import Derived.Test.YtplamgmmncenjaaDoorRW6
namespace Go.Proofs.YtplamgmmncenjaaDoorR
open Go.RowKit
set_option maxRecDepth 100000 in
set_option maxHeartbeats 1000000 in
/-- Valid -/
theorem valid_any (l : List Rct) (v : Value) (w : World) (h : SlR w v l) (hT : HasTab w) :
    Calls Tryd.prog 16 #[v] w fun e w' => e = .returned (.bool (validL l)) ∧ Below w.heap.size w w' := by
  have H := Lib.hid h
  have HT := Lib.hid hT
  obtain ⟨A, c, rfl, _, _, _⟩ := h.form
  clear h hT
  go_enter Tryd.func16, Tryd.ntmps16
  go_wp2_with (first | (go_at_call 37; refine (open_any l _ _ H.out HT.out).mono ?_; rintro e w1 ⟨rfl, hb1⟩) | (refine wpList_store_row rfl 62 _ _ rfl _ (gcells (openV l)) (by rfl) (by rfl) 62 (gcells g0) (Blk.new _ _ _) (grid_size _) (by rw [gcells_size, gcells_size]) (gcells_one _) ?_))
  go_ret
  exact ⟨rfl, below_setRow (hb1.alloc hb1.size _) hb1.size _⟩
/-! ### two sets combined -/
theorem or_any (x y : Nat) (hx : x < 18446744073709551616) (hy : y < 18446744073709551616) (w : World) : Calls Tryd.prog 32 #[.int .u64 (x : Int), .int .u64 (y : Int)] w fun e w' => e = .returned (.int .u64 ((x ||| y : Nat) : Int)) ∧ w = w' := by
  have e := u64_or_nat x y hx hy
  go_enter Tryd.func32, Tryd.ntmps32
  go_wp2
  go_ret
  exact ⟨rfl, rfl⟩
theorem and_any (x y : Nat) (hx : x < 18446744073709551616) (hy : y < 18446744073709551616) (w : World) : Calls Tryd.prog 33 #[.int .u64 (x : Int), .int .u64 (y : Int)] w fun e w' => e = .returned (.int .u64 ((x &&& y : Nat) : Int)) ∧ w = w' := by
  have e := u64_and_nat x y hx hy
  go_enter Tryd.func33, Tryd.ntmps33
  go_wp2
  go_ret
  exact ⟨rfl, rfl⟩
def minusN (x y : Nat) : Nat := x &&& (18446744073709551615 - y)
theorem minus_any (x y : Nat) (hx : x < 18446744073709551616) (hy : y < 18446744073709551616) (w : World) : Calls Tryd.prog 34 #[.int .u64 (x : Int), .int .u64 (y : Int)] w fun e w' => e = .returned (.int .u64 ((minusN x y : Nat) : Int)) ∧ w = w' := by
  have e : bits BinOp.andNot IntKind.u64 (x : Int) (y : Int) = ((minusN x y : Nat) : Int) := u64_andNot_nat x y hx hy
  go_enter Tryd.func34, Tryd.ntmps34
  go_wp2
  go_ret
  exact ⟨rfl, rfl⟩
def combTo (op : Nat → Nat → Nat) (k : Nat) (g h : Grd) : Grd := fun y => if y < k then op (g y) (h y) else g y
def combG (op : Nat → Nat → Nat) (g h : Grd) : Grd := fun y => op (g y) (h y)
def combL (op : Nat → Nat → Nat) (a b : List Rct) : List Rct := if validL a && validL b then areaL (combG op (openV a) (openV b)) else []
def combE (op : Nat → Nat → Nat) (a b : List Rct) : Int := if validL a && validL b then areaE (combG op (openV a) (openV b)) else 290
theorem combTo_step {op : Nat → Nat → Nat} {g h : Grd} {b : Nat} {t : TypeId} {w : World} (k : Nat) (hB : Blk w b t (gcells (combTo op k g h))) (n : Nat) :
    Blk ((w.drewN n).setCell ⟨b, k, none⟩ (.int .u64 ((op (g k) (h k) : Nat) : Int))) b t (gcells (combTo op (k + 1) g h)) := by
  have := (hB.drewN n).set_ k (.int .u64 ((op (g k) (h k) : Nat) : Int))
  rwa [gcells_set _ (combTo op (k + 1) g h) k] at this
  · unfold combTo; rw [if_pos (by omega)]
  · intro i hi hik
    unfold combTo
    by_cases hc : i < k
    · rw [if_pos hc, if_pos (by omega)]
    · rw [if_neg hc, if_neg (by omega)]
theorem gcells_congr {g g' : Grd} (h : ∀ i, i < 64 → g i = g' i) : gcells g = gcells g' := by
  unfold gcells; congr 1; funext i; rw [h i i.2]
set_option maxRecDepth 100000 in
set_option maxHeartbeats 2000000 in
/-- combine -/
theorem combine_any (fid : FuncId) (op : Nat → Nat → Nat) (hlt : ∀ x y : Nat, x < 18446744073709551616 → y < 18446744073709551616 → op x y < 18446744073709551616)
    (hop : ∀ (x y : Nat) (w : World), x < 18446744073709551616 → y < 18446744073709551616 → Calls Tryd.prog fid #[.int .u64 (x : Int), .int .u64 (y : Int)] w fun e w' => e = .returned (.int .u64 ((op x y : Nat) : Int)) ∧ w = w')
    (hcf : ∀ args w, (callFunc fid args).run Tryd.prog w = .ok (.enter fid args) w)
    (a b : List Rct) (va vb : Value) (w : World) (ha : SlR w va a) (hb : SlR w vb b) (hT : HasTab w) :
    Calls Tryd.prog 31 #[va, vb, .func (.func fid) #[] #[]] w fun e w' => ∃ v, e = .returned (.tuple #[v, .int .i64 (combE op a b)]) ∧ SlR w' v (combL op a b) ∧ Below w.heap.size w w' := by
  have HA := Lib.hid ha
  have HBB := Lib.hid hb
  have HT := Lib.hid hT
  obtain ⟨A, c, rfl, _, _, _⟩ := ha.form
  obtain ⟨A', c', rfl, _, _, _⟩ := hb.form
  clear ha hb hT
  have HLT := Lib.hid hlt
  have HOP := Lib.hid hop
  clear hlt hop
  have mono0 : ∀ {W W1 : World} (cs1 cs2 : Array Value), Below w.heap.size w W → Below W.heap.size W W1 → Below w.heap.size w ((W1.alloc (.cells cs1 62)).setRow W1.heap.size cs2) := fun cs1 cs2 h1 h2 =>
    below_setRow ((h1.trans (h2.mono h1.size)).alloc (Nat.le_trans h1.size h2.size) _) (Nat.le_trans h1.size h2.size) _
  by_cases hv : (validL a && validL b) = true
  · simp only [Bool.and_eq_true] at hv
    obtain ⟨hva, hvb⟩ := hv
    go_enter Tryd.func31, Tryd.ntmps31
    go_wp2_with (fail)
    refine (open_any a _ w HA.out HT.out).mono ?_
    rintro e w1 ⟨rfl, hb1⟩
    have HB1 := Lib.hid hb1
    clear hb1
    go_wp2_with (refine wpList_store_row rfl 62 _ _ rfl _ (gcells (openV a)) (by rfl) (by rfl) 62 (gcells g0) (Blk.new _ _ _) (grid_size _) (by rw [gcells_size, gcells_size]) (gcells_one _) ?_)
    generalize hW1 : World.setRow _ _ _ = W1
    have hbw1 : Below w.heap.size w W1 := by rw [← hW1]; exact mono0 _ _ (Below.refl _ _) HB1.out
    have b8 : Blk W1 w1.heap.size 62 (gcells (openV a)) := by rw [← hW1]; exact (Blk.new w1 _ (gcells g0)).row_same _
    have HW1 := Lib.hid hbw1
    have B8 := Lib.hid b8
    clear hW1 hbw1 b8
    refine (open_any b _ W1 (HBB.out.below HW1.out) (HT.out.below HW1.out)).mono ?_
    rintro e w2 ⟨rfl, hb2⟩
    have HB2 := Lib.hid hb2
    clear hb2
    go_wp2_with (refine wpList_store_row rfl 62 _ _ rfl _ (gcells (openV b)) (by rfl) (by rfl) 62 (gcells g0) (Blk.new _ _ _) (grid_size _) (by rw [gcells_size, gcells_size]) (gcells_one _) ?_)
    generalize hW2 : World.setRow _ _ _ = W2
    have hbw2 : Below w.heap.size w W2 := by rw [← hW2]; exact mono0 _ _ HW1.out HB2.out
    have b10 : Blk W2 w2.heap.size 62 (gcells (openV b)) := by rw [← hW2]; exact (Blk.new w2 _ (gcells g0)).row_same _
    have hlt8 : w1.heap.size < w2.heap.size := Nat.lt_of_lt_of_le B8.out.lt HB2.out.size
    have b8' : Blk W2 w1.heap.size 62 (gcells (openV a)) := by rw [← hW2]; exact ((B8.out.below HB2.out B8.out.lt).alloc _).row_far (Nat.ne_of_lt hlt8) _
    have hge8 : w.heap.size ≤ w1.heap.size := HB1.out.size
    have HW2 := Lib.hid hbw2
    have B10 := Lib.hid b10
    have B8' := Lib.hid b8'
    clear hW2 hbw2 b10 b8'
    obtain ⟨p8, hp8⟩ : ∃ p, p = w1.heap.size := ⟨_, rfl⟩
    obtain ⟨p10, hp10⟩ : ∃ p, p = w2.heap.size := ⟨_, rfl⟩
    have B8' : Hid (Blk W2 p8 62 (gcells (openV a))) := by rw [hp8]; exact B8'
    have B10 : Hid (Blk W2 p10 62 (gcells (openV b))) := by rw [hp10]; exact B10
    rw [← hp8, ← hp10]
    rw [← hp8] at hge8 hlt8
    rw [← hp10] at hlt8
    clear hp8 hp10
    obtain ⟨G, hG⟩ : ∃ G, G = openV a := ⟨_, rfl⟩
    obtain ⟨K, hK⟩ : ∃ K, K = openV b := ⟨_, rfl⟩
    have hGo : G.ok := by rw [hG]; exact openV_ok a
    have hKo : K.ok := by rw [hK]; exact openV_ok b
    have B8' : Hid (Blk W2 p8 62 (gcells G)) := by rw [hG]; exact B8'
    have B10 : Hid (Blk W2 p10 62 (gcells K)) := by rw [hK]; exact B10
    rw [← hG, ← hK]
    have HG := Lib.hid hG
    have HK := Lib.hid hK
    have HGO := Lib.hid hGo
    have HKO := Lib.hid hKo
    clear hG hK hGo hKo
    go_loopw [12, 29] (fun _ i wr => ∃ k : Nat, k ≤ 64 ∧ i = .int .i64 (k : Int) ∧ Hid (Blk wr p8 62 (gcells (combTo op k G K))) ∧ Hid (Blk wr p10 62 (gcells K)) ∧ Below w.heap.size w wr) (fun _ i _ => 64 - (intOf i).toNat)
    case atStart => exact ⟨0, by omega, rfl, by show Blk _ _ _ _; rw [show combTo op 0 G K = G from funext fun y => by simp [combTo]]; exact B8'.out, B10, HW2.out⟩
    case round =>
      obtain ⟨k, hk, rfl, h8, h10, hb⟩ := hrel
      by_cases hlt : (k : Int) < 64
      · have c8 : wr.cell? ⟨p8, k, none⟩ = some (.int .u64 ((G k : Nat) : Int)) := by rw [h8.out.cell, gcells_at _ _ (by omega)]; unfold combTo; rw [if_neg (by omega)]
        have c10 : wr.cell? ⟨p10, k, none⟩ = some (.int .u64 ((K k : Nat) : Int)) := by rw [h10.out.cell, gcells_at _ _ (by omega)]
        have f8 := h8.out.frozen k
        have i0 : (0 : Int) ≤ (k : Int) := by omega
        go_wp2
        refine region_quiet_tail_lit 10 (by kernel_rfl) (by kernel_rfl) ?_
        simp only [List.take_succ_cons, List.take_zero, List.drop_succ_cons, List.drop_zero]
        repeat (go_big_quiet_step ((exact quiet_same (HOP.out _ _ _ (HGO.out k) (HKO.out k)))))
        refine wpQuiet_nil ?_
        intro _ hw'
        obtain ⟨nq, hw''⟩ := hw'
        subst hw''
        go_wp2
        go_roundw
        case rel => exact ⟨k + 1, by omega, by go_num, combTo_step k h8.out nq, (h10.out.drewN nq).far (Nat.ne_of_gt hlt8) _, (below_drewN hb nq).setCell hge8 _⟩
        case measure => simp [intOf]; omega
      · obtain rfl : k = 64 := by omega
        clear hlt hk
        have hbg : Blk wr p8 62 (gcells (combG op G K)) := by
          rw [← gcells_congr (g := combTo op 64 G K) (fun i hi => by unfold combTo combG; rw [if_pos hi])]; exact h8.out
        have HBG := Lib.hid hbg
        clear hbg
        go_wp2_with (fail)
        refine (area_any p8 (combG op G K) (fun i => HLT.out _ _ (HGO.out i) (HKO.out i)) wr HBG.out (HT.out.below hb)).mono ?_
        rintro e w3 ⟨v, rfl, hs, hb3⟩
        have HS := Lib.hid hs
        have HB3 := Lib.hid hb3
        clear hs hb3
        go_wp2
        go_ret2
        have ev : (validL a && validL b) = true := by rw [hva, hvb]; rfl
        refine ⟨v, ?_, ?_, hb.trans (HB3.out.mono hb.size)⟩
        · have : combE op a b = areaE (combG op G K) := by unfold combE; rw [if_pos ev, HG.out, HK.out]
          rw [this]; rfl
        · have : combL op a b = areaL (combG op G K) := by unfold combL; rw [if_pos ev, HG.out, HK.out]
          rw [this]; exact HS.out
  · have e1 : combE op a b = 290 := by unfold combE; rw [if_neg hv]
    have e2 : combL op a b = [] := by unfold combL; rw [if_neg hv]
    have HE1 := Lib.hid e1
    have HE2 := Lib.hid e2
    clear e1 e2
    by_cases hva : validL a = true
    · have hvb : validL b = false := by
        cases h : validL b
        · rfl
        · rw [hva, h] at hv; exact absurd rfl hv
      clear hv
      go_enter Tryd.func31, Tryd.ntmps31
      go_wp2_with (fail)
      refine (open_any a _ w HA.out HT.out).mono ?_
      rintro e w1 ⟨rfl, hb1⟩
      have HB1 := Lib.hid hb1
      clear hb1
      go_wp2_with (refine wpList_store_row rfl 62 _ _ rfl _ (gcells (openV a)) (by rfl) (by rfl) 62 (gcells g0) (Blk.new _ _ _) (grid_size _) (by rw [gcells_size, gcells_size]) (gcells_one _) ?_)
      generalize hW1 : World.setRow _ _ _ = W1
      have hbw1 : Below w.heap.size w W1 := by rw [← hW1]; exact mono0 _ _ (Below.refl _ _) HB1.out
      have b8 : Blk W1 w1.heap.size 62 (gcells (openV a)) := by rw [← hW1]; exact (Blk.new w1 _ (gcells g0)).row_same _
      have HW1 := Lib.hid hbw1
      have B8 := Lib.hid b8
      clear hW1 hbw1 b8
      refine (open_any b _ W1 (HBB.out.below HW1.out) (HT.out.below HW1.out)).mono ?_
      rintro e w2 ⟨rfl, hb2⟩
      have HB2 := Lib.hid hb2
      clear hb2
      go_wp2_with (refine wpList_store_row rfl 62 _ _ rfl _ (gcells (openV b)) (by rfl) (by rfl) 62 (gcells g0) (Blk.new _ _ _) (grid_size _) (by rw [gcells_size, gcells_size]) (gcells_one _) ?_)
      go_ret2
      refine ⟨.slice none 0 0, ?_, ?_, mono0 _ _ HW1.out HB2.out⟩
      · rw [HE1.out]; rfl
      · rw [HE2.out]; exact Sl.nil _ _
    · have hva' : validL a = false := by simpa using hva
      clear hv hva
      go_enter Tryd.func31, Tryd.ntmps31
      go_wp2_with (fail)
      refine (open_any a _ w HA.out HT.out).mono ?_
      rintro e w1 ⟨rfl, hb1⟩
      have HB1 := Lib.hid hb1
      clear hb1
      go_wp2_with (refine wpList_store_row rfl 62 _ _ rfl _ (gcells (openV a)) (by rfl) (by rfl) 62 (gcells g0) (Blk.new _ _ _) (grid_size _) (by rw [gcells_size, gcells_size]) (gcells_one _) ?_)
      generalize hW1 : World.setRow _ _ _ = W1
      have hbw1 : Below w.heap.size w W1 := by rw [← hW1]; exact mono0 _ _ (Below.refl _ _) HB1.out
      have b8 : Blk W1 w1.heap.size 62 (gcells (openV a)) := by rw [← hW1]; exact (Blk.new w1 _ (gcells g0)).row_same _
      have HW1 := Lib.hid hbw1
      have B8 := Lib.hid b8
      clear hW1 hbw1 b8
      refine (open_any b _ W1 (HBB.out.below HW1.out) (HT.out.below HW1.out)).mono ?_
      rintro e w2 ⟨rfl, hb2⟩
      have HB2 := Lib.hid hb2
      clear hb2
      go_wp2_with (refine wpList_store_row rfl 62 _ _ rfl _ (gcells (openV b)) (by rfl) (by rfl) 62 (gcells g0) (Blk.new _ _ _) (grid_size _) (by rw [gcells_size, gcells_size]) (gcells_one _) ?_)
      go_ret2
      refine ⟨.slice none 0 0, ?_, ?_, mono0 _ _ HW1.out HB2.out⟩
      · rw [HE1.out]; rfl
      · rw [HE2.out]; exact Sl.nil _ _
/-! ### Union, Common, Minus -/
def orN (x y : Nat) : Nat := x ||| y
def andN (x y : Nat) : Nat := x &&& y
theorem union_any (a b : List Rct) (va vb : Value) (w : World) (ha : SlR w va a) (hb : SlR w vb b) (hT : HasTab w) :
    Calls Tryd.prog 12 #[va, vb] w fun e w' => ∃ v, e = .returned (.tuple #[v, .int .i64 (combE orN a b)]) ∧ SlR w' v (combL orN a b) ∧ Below w.heap.size w w' := by
  have hc := combine_any 32 orN (fun x y hx hy => or_lt hx hy) (fun x y w hx hy => or_any x y hx hy w) (enters_of Tryd.func32 (by kernel_rfl) rfl) a b va vb w ha hb hT
  have HC := Lib.hid hc
  obtain ⟨A, c, rfl, _, _, _⟩ := ha.form
  obtain ⟨A', c', rfl, _, _, _⟩ := hb.form
  clear ha hb hT hc
  go_enter Tryd.func12, Tryd.ntmps12
  go_wp2_with (fail)
  refine HC.out.mono ?_
  rintro e w3 ⟨v, rfl, hs, hb3⟩
  have HS := Lib.hid hs
  have HB3 := Lib.hid hb3
  clear hs hb3
  go_wp2
  go_ret2
  exact ⟨v, rfl, HS.out, HB3.out⟩
theorem common_any (a b : List Rct) (va vb : Value) (w : World) (ha : SlR w va a) (hb : SlR w vb b) (hT : HasTab w) :
    Calls Tryd.prog 13 #[va, vb] w fun e w' => ∃ v, e = .returned (.tuple #[v, .int .i64 (combE andN a b)]) ∧ SlR w' v (combL andN a b) ∧ Below w.heap.size w w' := by
  have hc := combine_any 33 andN (fun x y hx hy => and_lt hx) (fun x y w hx hy => and_any x y hx hy w) (enters_of Tryd.func33 (by kernel_rfl) rfl) a b va vb w ha hb hT
  have HC := Lib.hid hc
  obtain ⟨A, c, rfl, _, _, _⟩ := ha.form
  obtain ⟨A', c', rfl, _, _, _⟩ := hb.form
  clear ha hb hT hc
  go_enter Tryd.func13, Tryd.ntmps13
  go_wp2_with (fail)
  refine HC.out.mono ?_
  rintro e w3 ⟨v, rfl, hs, hb3⟩
  have HS := Lib.hid hs
  have HB3 := Lib.hid hb3
  clear hs hb3
  go_wp2
  go_ret2
  exact ⟨v, rfl, HS.out, HB3.out⟩
theorem minus2_any (a b : List Rct) (va vb : Value) (w : World) (ha : SlR w va a) (hb : SlR w vb b) (hT : HasTab w) :
    Calls Tryd.prog 14 #[va, vb] w fun e w' => ∃ v, e = .returned (.tuple #[v, .int .i64 (combE minusN a b)]) ∧ SlR w' v (combL minusN a b) ∧ Below w.heap.size w w' := by
  have hc := combine_any 34 minusN (fun x y hx hy => and_lt hx) (fun x y w hx hy => minus_any x y hx hy w) (enters_of Tryd.func34 (by kernel_rfl) rfl) a b va vb w ha hb hT
  have HC := Lib.hid hc
  obtain ⟨A, c, rfl, _, _, _⟩ := ha.form
  obtain ⟨A', c', rfl, _, _, _⟩ := hb.form
  clear ha hb hT hc
  go_enter Tryd.func14, Tryd.ntmps14
  go_wp2_with (fail)
  refine HC.out.mono ?_
  rintro e w3 ⟨v, rfl, hs, hb3⟩
  have HS := Lib.hid hs
  have HB3 := Lib.hid hb3
  clear hs hb3
  go_wp2
  go_ret2
  exact ⟨v, rfl, HS.out, HB3.out⟩
end Go.Proofs.YtplamgmmncenjaaDoorR
