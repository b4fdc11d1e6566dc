/- Walks of the small helpers of the law and of the reference: pick, rect, near, sees, sum, both, Same. -/
import Derived.Test.YtplamgmmncenjaaDoorRW10
import Derived.Deep.MidRow
import Derived.Deep.WholeRow
namespace Go.Proofs.YtplamgmmncenjaaDoorR
open Go.RowKit
/-! ### pick -/
def pickI (c n : Int) : Int := (if c < 0 then -(c + 1) else c).tmod n
theorem pickI_range {c n : Int} (hn : 0 < n) : 0 ≤ pickI c n ∧ pickI c n < n := by
  have h : 0 ≤ (if c < 0 then -(c + 1) else c) := by split <;> omega
  unfold pickI
  exact ⟨Int.tmod_nonneg _ h, Int.tmod_lt_of_pos _ hn⟩
def isInt (c : Int) : Prop := -9223372036854775808 ≤ c ∧ c ≤ 9223372036854775807
set_option maxHeartbeats 1000000 in
theorem pickA_any (c n : Int) (hc : isInt c) (h0 : 0 < n) (h1 : n ≤ 9223372036854775807) (w : World) :
    Calls Tryd.prog 11 #[.int .i64 c, .int .i64 n] w fun e w' => e = .returned (.int .i64 (pickI c n)) ∧ w = w' := by
  obtain ⟨c0, c1⟩ := hc
  by_cases hneg : c < 0
  · have e : pickI c n = -(c + 1).tmod n := by unfold pickI; rw [if_pos hneg, Int.neg_tmod]
    have E := Lib.hid e
    clear e
    go_enter Tryd.func11, Tryd.ntmps11
    go_wp2
    go_ret
    exact ⟨by rw [E.out]; rfl, rfl⟩
  · have e : pickI c n = c % n := by unfold pickI; rw [if_neg hneg, Int.tmod_eq_emod_of_nonneg (by omega)]
    have E := Lib.hid e
    clear e
    go_enter Tryd.func11, Tryd.ntmps11
    go_wp2
    go_ret
    exact ⟨by rw [E.out]; rfl, rfl⟩
set_option maxHeartbeats 1000000 in
theorem pickB_any (c n : Int) (hc : isInt c) (h0 : 0 < n) (h1 : n ≤ 9223372036854775807) (w : World) :
    Calls Tryd.prog 42 #[.int .i64 c, .int .i64 n] w fun e w' => e = .returned (.int .i64 (pickI c n)) ∧ w = w' := by
  obtain ⟨c0, c1⟩ := hc
  by_cases hneg : c < 0
  · have e : pickI c n = -(c + 1).tmod n := by unfold pickI; rw [if_pos hneg, Int.neg_tmod]
    have E := Lib.hid e
    clear e
    go_enter Tryd.func42, Tryd.ntmps42
    go_wp2
    go_ret
    exact ⟨by rw [E.out]; rfl, rfl⟩
  · have e : pickI c n = c % n := by unfold pickI; rw [if_neg hneg, Int.tmod_eq_emod_of_nonneg (by omega)]
    have E := Lib.hid e
    clear e
    go_enter Tryd.func42, Tryd.ntmps42
    go_wp2
    go_ret
    exact ⟨by rw [E.out]; rfl, rfl⟩
/-! ### rect -/
theorem rectA_any (a b c d : Int) (w : World) :
    Calls Tryd.prog 28 #[.int .i64 a, .int .i64 b, .int .i64 c, .int .i64 d] w fun e w' => e = .returned (.agg #[.int .i64 a, .int .i64 b, .int .i64 c, .int .i64 d]) ∧ Below w.heap.size w w' := by
  go_enter Tryd.func28, Tryd.ntmps28
  go_wp2
  exact bodyPost_ret (results_cell_row rfl _ _ w.heap.size 36 _ (0, 0) _ rfl (Blk.new w _ _) rect_ht rfl (by kernel_rfl)) rfl ⟨rfl, (Below.refl _ _).alloc (Nat.le_refl _) _⟩
/-! ### both -/
theorem both_any (a b : List Rct) (va vb : Value) (w : World) (ha : SlR w va a) (hb : SlR w vb b) (hT : HasTab w) :
    Calls Tryd.prog 26 #[va, vb] w fun e w' => ∃ v1 v2, e = .returned (.tuple #[v1, v2, .bool (decide (combE orN a b = 0) && decide (combE andN a b = 0))]) ∧ SlR w' v1 (combL orN a b) ∧ SlR w' v2 (combL andN a b) ∧ Below w.heap.size w w' := by
  have HA := Lib.hid ha
  have HB := Lib.hid hb
  have HT := Lib.hid hT
  clear ha hb hT
  go_enter Tryd.func26, Tryd.ntmps26
  go_wp2_with (fail)
  refine (union_any a b va vb w HA.out HB.out HT.out).mono ?_
  rintro e w1 ⟨v1, rfl, hv1, hb1⟩
  go_wp2_with (fail)
  refine (common_any a b va vb w1 (HA.out.below hb1) (HB.out.below hb1) (HT.out.below hb1)).mono ?_
  rintro e w2 ⟨v2, rfl, hv2, hb2⟩
  have hbb := hb1.trans (hb2.mono hb1.size)
  obtain ⟨e1, he1⟩ : ∃ e, e = combE orN a b := ⟨_, rfl⟩
  obtain ⟨e2, he2⟩ : ∃ e, e = combE andN a b := ⟨_, rfl⟩
  rw [← he1, ← he2]
  have hv1' := SlR.below hv1 (hb2.mono (Nat.le_refl _))
  have HE1 := Lib.hid he1
  have HE2 := Lib.hid he2
  clear he1 he2 hv1
  have HV1 := Lib.hid hv1'
  have HV2 := Lib.hid hv2
  have HBB := Lib.hid hbb
  clear hv1' hv2 hbb hb1 hb2
  by_cases h1 : e1 = 0
  · go_wp2
    go_ret3
    exact ⟨v1, v2, by rw [← HE1.out, ← HE2.out]; simp [h1] <;> rfl, HV1.out, HV2.out, HBB.out⟩
  · go_wp2
    go_ret3
    exact ⟨v1, v2, by rw [← HE1.out, ← HE2.out]; simp [h1] <;> rfl, HV1.out, HV2.out, HBB.out⟩
/-! ### sees -/
def seesW (x y : Int) (want : Bool) : Bool := want && decide (0 ≤ x) && decide (x < 64) && decide (0 ≤ y) && decide (y < 64)
theorem sees_any (l : List Rct) (v : Value) (x y : Int) (want : Bool) (w : World) (hl : SlR w v l) (hT : HasTab w) :
    Calls Tryd.prog 18 #[v, .int .i64 x, .int .i64 y, .bool want] w fun e w' => e = .returned (.bool (hasL l x y == seesW x y want)) ∧ Below w.heap.size w w' := by
  have HL := Lib.hid (hasA_any l v x y w hl hT)
  clear hl hT
  obtain ⟨f, hf⟩ : ∃ f, f = hasL l x y := ⟨_, rfl⟩
  rw [← hf] at HL ⊢
  clear hf
  obtain ⟨g, hg⟩ : ∃ g, g = seesW x y want := ⟨_, rfl⟩
  rw [← hg]
  unfold seesW at hg
  go_enter Tryd.func18, Tryd.ntmps18
  go_wp2_with (fail)
  refine HL.out.mono ?_
  rintro e w1 ⟨rfl, hb1⟩
  clear HL
  cases want
  · have HG := Lib.hid hg
    clear hg
    go_wp2
    go_ret
    exact ⟨by rw [HG.out]; cases f <;> rfl, hb1⟩
  · by_cases h1 : 0 ≤ x
    · by_cases h2 : x < 64
      · by_cases h3 : 0 ≤ y
        · rw [dt h1, dt h2, dt h3] at hg
          have HG := Lib.hid hg
          clear hg
          go_wp2
          go_ret
          exact ⟨by rw [HG.out]; simp, hb1⟩
        · rw [df h3] at hg
          have HG := Lib.hid hg
          clear hg
          go_wp2
          go_ret
          exact ⟨by rw [HG.out]; simp, hb1⟩
      · rw [df h2] at hg
        have HG := Lib.hid hg
        clear hg
        go_wp2
        go_ret
        exact ⟨by rw [HG.out]; simp, hb1⟩
    · rw [df h1] at hg
      have HG := Lib.hid hg
      clear hg
      go_wp2
      go_ret
      exact ⟨by rw [HG.out]; simp, hb1⟩
/-! ### near -/
def nearR (x y d : Int) (q : Rct) : Bool := decide (q.l - d ≤ x) && decide (x < q.r + d) && decide (q.lo - d ≤ y) && decide (y < q.hi + d)
def smallR (q : Rct) : Bool := decide (0 ≤ q.l ∧ q.l ≤ 64 ∧ 0 ≤ q.r ∧ q.r ≤ 64 ∧ 0 ≤ q.lo ∧ q.lo ≤ 64 ∧ 0 ≤ q.hi ∧ q.hi ≤ 64)
theorem small_of_ok {q : Rct} (h : okR q = true) : 0 ≤ q.l ∧ q.l ≤ 64 ∧ 0 ≤ q.r ∧ q.r ≤ 64 ∧ 0 ≤ q.lo ∧ q.lo ≤ 64 ∧ 0 ≤ q.hi ∧ q.hi ≤ 64 := by
  have := okR_parts h; omega
set_option maxHeartbeats 2000000 in
theorem near_any (l : List Rct) (v : Value) (x y d : Int) (w : World) (hl : SlR w v l) (hok : allOk l = true) (hd0 : 0 ≤ d) (hd1 : d ≤ 64) :
    Calls Tryd.prog 19 #[v, .int .i64 x, .int .i64 y, .int .i64 d] w fun e w' => e = .returned (.bool (l.any (nearR x y d))) ∧ Below w.heap.size w w' := by
  obtain ⟨A, c, rfl, _, hcm, hf⟩ := hl.form
  have hal : l.length ≤ 9223372036854775807 := by unfold maxLen at hcm; omega
  obtain ⟨n, hn⟩ : ∃ n, n = l.length := ⟨_, rfl⟩
  rw [← hn] at hf hal ⊢
  have HN := Lib.hid hn
  have HF := Lib.hid hf
  have HO := Lib.hid hok
  clear hn hf hl hcm hok
  go_enter Tryd.func19, Tryd.ntmps19
  go_wp2
  go_loopw [9, 10] (fun i _ wr => ∃ k : Nat, k ≤ n ∧ i = .int .i64 (k : Int) ∧ Below w.heap.size w wr ∧ Hid ((l.take k).any (nearR x y d) = false)) (fun i _ _ => n - (intOf i).toNat)
  case atStart => exact ⟨0, by omega, rfl, Below.refl _ _, rfl⟩
  case round =>
    obtain ⟨k, hk, rfl, hb, ha⟩ := hrel
    by_cases hlt : k < n
    · obtain ⟨b, o, rfl, hbl, g⟩ := HF.out k hlt
      obtain ⟨p1, p2, p3, p4⟩ := g k hlt
      obtain ⟨q, hq⟩ : ∃ q, q = l.getD k default := ⟨_, rfl⟩
      rw [← hq] at p1 p2 p3 p4
      rw [← hb.cell (p := ⟨b, _, none⟩) hbl] at p1 p2 p3 p4
      have i0 : (0 : Int) ≤ (k : Int) := by omega
      have i1 : (k : Int) < (n : Int) := by omega
      have hkl : k < l.length := by rw [← HN.out]; exact hlt
      have hqo : okR q = true := by rw [hq]; exact allOk_getD HO.out hkl
      obtain ⟨q1, q2, q3, q4, q5, q6, q7, q8⟩ := small_of_ok hqo
      have hsz := hb.size
      have no : nearR x y d q = false → (l.take (k + 1)).any (nearR x y d) = false := fun h => by
        rw [take_snocR l k hkl, ← hq, List.any_append, ha.out]; simp [h]
      have yes : nearR x y d q = true → l.any (nearR x y d) = true := fun h => by
        rw [List.any_eq_true]; refine ⟨q, ?_, h⟩; rw [hq]; simp [List.getD, hkl]
      have NO := Lib.hid no
      have YES := Lib.hid yes
      clear g hq no yes hkl hqo
      have hbn : ∀ o, Below w.heap.size w (wr.alloc o) := fun o => hb.alloc hsz o
      by_cases h1 : q.l - d ≤ x
      · by_cases h2 : x < q.r + d
        · by_cases h3 : q.lo - d ≤ y
          · by_cases h4 : y < q.hi + d
            · have hv := YES.out (by unfold nearR; rw [dt h1, dt h2, dt h3, dt h4]; rfl)
              have HV := Lib.hid hv
              clear hv
              go_wp2
              go_ret
              exact ⟨by rw [HV.out]; rfl, hbn _⟩
            · have hv := NO.out (by unfold nearR; rw [df h4]; simp)
              have HV := Lib.hid hv
              clear hv
              go_wp2
              go_roundw
              case rel => exact ⟨k + 1, by omega, by go_num, hbn _, HV⟩
              case measure => simp [intOf]; omega
          · have hv := NO.out (by unfold nearR; rw [df h3]; simp)
            have HV := Lib.hid hv
            clear hv
            go_wp2
            go_roundw
            case rel => exact ⟨k + 1, by omega, by go_num, hbn _, HV⟩
            case measure => simp [intOf]; omega
        · have hv := NO.out (by unfold nearR; rw [df h2]; simp)
          have HV := Lib.hid hv
          clear hv
          go_wp2
          go_roundw
          case rel => exact ⟨k + 1, by omega, by go_num, hbn _, HV⟩
          case measure => simp [intOf]; omega
      · have hv := NO.out (by unfold nearR; rw [df h1]; simp)
        have HV := Lib.hid hv
        clear hv
        go_wp2
        go_roundw
        case rel => exact ⟨k + 1, by omega, by go_num, hbn _, HV⟩
        case measure => simp [intOf]; omega
    · obtain rfl : k = n := by omega
      clear hlt hk
      go_wp2
      go_ret
      refine ⟨?_, hb⟩
      have := ha.out
      rw [List.take_of_length_le (by rw [HN.out]; exact Nat.le_refl _)] at this
      rw [this]; rfl
/-! ### sum -/
def sumL (l : List Rct) : Int := (l.map fun q => (q.r - q.l) * (q.hi - q.lo)).sum
theorem sumL_snoc (l : List Rct) (q : Rct) : sumL (l ++ [q]) = sumL l + (q.r - q.l) * (q.hi - q.lo) := by simp [sumL]
theorem area_le {q : Rct} (h : okR q = true) : 0 ≤ (q.r - q.l) * (q.hi - q.lo) ∧ (q.r - q.l) * (q.hi - q.lo) ≤ 4096 := by
  have := okR_parts h
  refine ⟨Int.mul_nonneg (by omega) (by omega), ?_⟩
  have h1 : (q.r - q.l) * (q.hi - q.lo) ≤ 64 * (q.hi - q.lo) := Int.mul_le_mul_of_nonneg_right (by omega) (by omega)
  omega
theorem sumL_bound {l : List Rct} (h : allOk l = true) (k : Nat) : 0 ≤ sumL (l.take k) ∧ sumL (l.take k) ≤ 4096 * k := by
  induction k with
  | zero => simp [sumL]
  | succ k ih =>
    by_cases hk : k < l.length
    · rw [take_snocR l k hk, sumL_snoc]
      have := area_le (allOk_getD h hk)
      omega
    · rw [List.take_of_length_le (by omega)] at *
      omega
set_option maxHeartbeats 2000000 in
theorem sum_any (l : List Rct) (v : Value) (w : World) (hl : SlR w v l) (hok : allOk l = true) (hlen : l.length ≤ 4096) :
    Calls Tryd.prog 24 #[v] w fun e w' => e = .returned (.int .i64 (sumL l)) ∧ ∃ n, w' = w.drewN n := by
  obtain ⟨A, c, rfl, _, hcm, hf⟩ := hl.form
  obtain ⟨n, hn⟩ : ∃ n, n = l.length := ⟨_, rfl⟩
  rw [← hn] at hf hlen ⊢
  have HN := Lib.hid hn
  have HF := Lib.hid hf
  have HO := Lib.hid hok
  clear hn hf hl hcm hok
  go_enter Tryd.func24, Tryd.ntmps24
  go_wp2
  go_loopw [3, 4] (fun s i wr => ∃ k : Nat, k ≤ n ∧ i = .int .i64 (k : Int) ∧ s = .int .i64 (sumL (l.take k)) ∧ (∃ m, wr = w.drewN m)) (fun _ i _ => n - (intOf i).toNat)
  case atStart => exact ⟨0, by omega, rfl, rfl, 0, rfl⟩
  case round =>
    obtain ⟨k, hk, rfl, rfl, m, rfl⟩ := hrel
    by_cases hlt : k < n
    · obtain ⟨b, o, rfl, hbl, g⟩ := HF.out k hlt
      obtain ⟨p1, p2, p3, p4⟩ := g k hlt
      obtain ⟨q, hq⟩ : ∃ q, q = l.getD k default := ⟨_, rfl⟩
      rw [← hq] at p1 p2 p3 p4
      have i0 : (0 : Int) ≤ (k : Int) := by omega
      have i1 : (k : Int) < (n : Int) := by omega
      have hkl : k < l.length := by rw [← HN.out]; exact hlt
      have hqo : okR q = true := by rw [hq]; exact allOk_getD HO.out hkl
      obtain ⟨q1, q2, q3, q4, q5, q6, q7, q8⟩ := small_of_ok hqo
      obtain ⟨a1, a2⟩ := area_le hqo
      obtain ⟨s1, s2⟩ := sumL_bound HO.out k
      have hs : sumL (l.take (k + 1)) = sumL (l.take k) + (q.r - q.l) * (q.hi - q.lo) := by rw [take_snocR l k hkl, ← hq, sumL_snoc]
      obtain ⟨s, hss⟩ : ∃ s, s = sumL (l.take k) := ⟨_, rfl⟩
      rw [← hss] at s1 s2 hs ⊢
      have HS := Lib.hid hs
      have s3 : s ≤ 16777216 := by omega
      clear g hq hkl hqo hs hss s2
      go_wp2
      go_quiet (fail)
      go_wp2
      go_roundw
      case rel => exact ⟨k + 1, by omega, by go_num, by rw [HS.out], m + nq, by first | rfl | rw [World.drewN_drewN]⟩
      case measure => simp [intOf]; omega
    · obtain rfl : k = n := by omega
      clear hlt hk
      have ht : l.take k = l := List.take_of_length_le (by rw [HN.out]; exact Nat.le_refl _)
      rw [ht]
      obtain ⟨s, hss⟩ : ∃ s, s = sumL l := ⟨_, rfl⟩
      rw [← hss]
      have HS := Lib.hid hss
      clear ht hss
      go_wp2
      go_ret
      exact ⟨by rw [← HS.out]; rfl, m, by rfl⟩
/-! ### Same -/
set_option maxHeartbeats 1000000 in
theorem same_any (a b : List Rct) (v1 v2 : Value) (w : World) (h1 : SlR w v1 a) (h2 : SlR w v2 b) :
    Calls Tryd.prog 22 #[v1, v2] w fun e w' => e = .returned (.bool (decide (a = b))) ∧ ∃ n, w' = w.drewN n := by
  obtain ⟨A1, c1, rfl, _, m1, f1⟩ := h1.form
  obtain ⟨A2, c2, rfl, _, m2, f2⟩ := h2.form
  clear h1 h2
  have hl1 : a.length ≤ 9223372036854775807 := by unfold maxLen at m1; omega
  have hl2 : b.length ≤ 9223372036854775807 := by unfold maxLen at m2; omega
  clear m1 m2
  obtain ⟨n1, hn1⟩ : ∃ n, n = a.length := ⟨_, rfl⟩
  obtain ⟨n2, hn2⟩ : ∃ n, n = b.length := ⟨_, rfl⟩
  rw [← hn1] at f1 hl1 ⊢
  rw [← hn2] at f2 hl2 ⊢
  have HN1 := Lib.hid hn1
  have HN2 := Lib.hid hn2
  clear hn1 hn2
  by_cases hne : n1 = n2
  · obtain rfl := hne
    have F1 := Lib.hid f1
    have F2 := Lib.hid f2
    clear f1 f2
    go_enter Tryd.func22, Tryd.ntmps22
    go_wp2
    go_loopw [5] (fun i wr => ∃ k : Nat, k ≤ n1 ∧ i = .int .i64 (k : Int) ∧ (∃ n, wr = w.drewN n) ∧ eqTo a b k) (fun i _ => n1 - (intOf i).toNat)
    case atStart => exact ⟨0, by omega, rfl, ⟨0, rfl⟩, fun i hi => by omega⟩
    case round =>
      obtain ⟨k, hk, rfl, ⟨n, rfl⟩, he⟩ := hrel
      by_cases hlt : k < n1
      · obtain ⟨b1, o1, rfl, _, g1⟩ := F1.out k hlt
        obtain ⟨b2, o2, rfl, _, g2⟩ := F2.out k hlt
        obtain ⟨p1, p2, p3, p4⟩ := g1 k hlt
        obtain ⟨r1, r2, r3, r4⟩ := g2 k hlt
        obtain ⟨x, hx⟩ : ∃ x, x = a.getD k default := ⟨_, rfl⟩
        obtain ⟨y, hy⟩ : ∃ y, y = b.getD k default := ⟨_, rfl⟩
        rw [← hx] at p1 p2 p3 p4
        rw [← hy] at r1 r2 r3 r4
        have HE := Lib.hid he
        have HX := Lib.hid hx
        have HY := Lib.hid hy
        clear he g1 g2 hx hy
        have i0 : (0 : Int) ≤ (k : Int) := by omega
        have i1 : (k : Int) < (n1 : Int) := by omega
        have hm := rect_hm
        have hq := rect_neq' x y
        by_cases hxy : x = y
        · obtain rfl := hxy
          go_wp2
          go_quiet (fail)
          go_wp2
          go_roundw
          case rel => exact ⟨k + 1, by omega, by go_num, ⟨n + nq, by first | rfl | rw [World.drewN_drewN]⟩, fun i hi => by
            by_cases e : i = k
            · subst e; rw [← HX.out, ← HY.out]
            · exact HE.out i (by omega)⟩
          case measure => simp [intOf]; omega
        · have hd : decide (x = y) = false := by simp [hxy]
          have HXY := Lib.hid hxy
          clear hxy
          go_wp2
          go_quiet (fail)
          go_wp2
          go_ret
          refine ⟨?_, n + nq, by first | rfl | rw [World.drewN_drewN]⟩
          have : decide (a = b) = false := by
            rw [decide_eq_false_iff_not]
            intro e; exact HXY.out (by rw [HX.out, HY.out, e])
          rw [this]; rfl
      · obtain rfl : k = n1 := by omega
        have HE := Lib.hid he
        clear he
        go_wp2
        go_ret
        refine ⟨?_, n, rfl⟩
        have : decide (a = b) = true := by
          rw [decide_eq_true_eq]
          apply List.ext_getElem (by rw [← HN1.out, ← HN2.out])
          intro i h1 h2
          have := HE.out i (by rw [HN1.out]; exact h1)
          simpa [List.getD, h1, h2] using this
        rw [this]; rfl
  · have hne' : ((n1 : Int) != (n2 : Int)) = true := by simp; omega
    clear f1 f2
    have HNE := Lib.hid hne
    clear hne
    go_enter Tryd.func22, Tryd.ntmps22
    go_wp2
    go_ret
    refine ⟨?_, 0, rfl⟩
    have : decide (a = b) = false := by
      rw [decide_eq_false_iff_not]
      intro e; exact HNE.out (by rw [HN1.out, HN2.out, e])
    rw [this]; rfl
end Go.Proofs.YtplamgmmncenjaaDoorR
