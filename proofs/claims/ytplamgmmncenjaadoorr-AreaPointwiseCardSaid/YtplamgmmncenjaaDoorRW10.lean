/- Walks of package area: Of, Has. -/
import Derived.Test.YtplamgmmncenjaaDoorRW9
import Derived.Deep.Slices
namespace Go.Proofs.YtplamgmmncenjaaDoorR
open Go.RowKit
def ofOk (l : List Rct) : Bool := allOk (l.take 400) && decide (l.length ≤ 400)
def ofL (l : List Rct) : List Rct := if ofOk l then areaL (setL l) else []
def ofE (l : List Rct) : Int := if ofOk l then areaE (setL l) else 290
theorem SlR.take {w : World} {A : Option Addr} {n c : Nat} {l : List Rct} (h : SlR w (.slice A n c) l) (k : Nat) (hk : k ≤ n) : SlR w (.slice A k c) (l.take k) := by
  obtain ⟨h1, A', cap, h2, h3, h4, h5⟩ := h
  cases h2
  have hl : (l.take k).length = k := by rw [List.length_take, Nat.min_eq_left hk]
  unfold SlR Sl
  rw [hl]
  refine ⟨by rw [cellsR_len, hl], A, c, rfl, by omega, h4, fun hn => ?_⟩
  obtain ⟨b, off, e, hb, hc⟩ := h5 (by omega)
  refine ⟨b, off, e, hb, fun j u hu => hc j u ?_⟩
  have : cellsR l = cellsR (l.take k) ++ cellsR (l.drop k) := by simp only [cellsR]; rw [← List.flatMap_append, List.take_append_drop]
  rw [this, List.getElem?_append_left]
  · exact hu
  · exact (List.getElem?_eq_some_iff.1 hu).1
set_option maxRecDepth 100000 in
set_option maxHeartbeats 2000000 in
/-- Of -/
theorem of_any (l : List Rct) (v : Value) (w : World) (h : SlR w v l) (hT : HasTab w) :
    Calls Tryd.prog 21 #[v] w fun e w' => ∃ v, e = .returned (.tuple #[v, .int .i64 (ofE l)]) ∧ SlR w' v (ofL l) ∧ Below w.heap.size w w' := by
  have H := Lib.hid h
  have HT := Lib.hid hT
  obtain ⟨A, c, rfl, hlc, hcm, hf⟩ := h.form
  have hal : l.length ≤ 9223372036854775807 := by unfold maxLen at hcm; omega
  obtain ⟨n, hn⟩ : ∃ n, n = l.length := ⟨_, rfl⟩
  clear h hT hf
  rw [← hn] at H hal hlc ⊢
  have HN := Lib.hid hn
  have hmin : (min (n : Int) 400) = ((min n 400 : Nat) : Int) := by omega
  obtain ⟨k, hk⟩ : ∃ k, k = min n 400 := ⟨_, rfl⟩
  rw [← hk] at hmin
  have k1 : k ≤ n := by omega
  have k2 : k ≤ 400 := by omega
  have k3 : k ≤ c := by omega
  have hs := H.out.take k k1
  have HS := Lib.hid hs
  have HK := Lib.hid hk
  clear hs hn hk
  by_cases hok : (allOk (l.take 400) && decide (n ≤ 400)) = true
  · have hok1 : ofOk l = true := by unfold ofOk; rw [← HN.out]; exact hok
    have e1 : ofE l = areaE (setL l) := by unfold ofE; rw [if_pos hok1]
    have e2 : ofL l = areaL (setL l) := by unfold ofL; rw [if_pos hok1]
    simp only [Bool.and_eq_true, decide_eq_true_eq] at hok
    have hn4 : n ≤ 400 := hok.2
    obtain rfl : k = n := by rw [HK.out]; omega
    have hlk : l.take k = l := List.take_of_length_le (by rw [← HN.out]; exact Nat.le_refl _)
    have ha : allOk (l.take k) = true := by
      rw [hlk]
      have := hok.1
      rwa [List.take_of_length_le (by rw [← HN.out]; exact hn4)] at this
    have hla : allOk l = true := by rw [hlk] at ha; exact ha
    have hsv : setV (l.take k) = setL l := by unfold setV; rw [if_pos ha, hlk]
    have hso : (setL l).ok := setL_ok hla
    obtain ⟨G, hG⟩ : ∃ G, G = setL l := ⟨_, rfl⟩
    rw [← hG] at e1 e2 hsv hso
    have HE1 := Lib.hid e1
    have HE2 := Lib.hid e2
    have HA := Lib.hid ha
    have HSV := Lib.hid hsv
    have HSO := Lib.hid hso
    clear hok1 e1 e2 hok hlk ha hla hsv hso hG
    go_enter Tryd.func21, Tryd.ntmps21
    go_wp2_with (fail)
    refine (set_any _ _ w HS.out).mono ?_
    rintro e w1 ⟨rfl, hb1⟩
    rw [HSV.out, HA.out]
    have HB1 := Lib.hid hb1
    clear hb1
    go_wp2_with (refine wpList_store_row rfl 62 _ _ rfl _ (gcells G) (by rfl) (by rfl) 62 (gcells g0) (Blk.new _ _ _) (grid_size _) (by rw [gcells_size, gcells_size]) (gcells_one _) ?_)
    generalize hW1 : World.setRow _ _ _ = W1
    have hbw1 : Below w.heap.size w W1 := by rw [← hW1]; exact mono0 _ _ _ (Below.refl _ _) HB1.out
    have b8 : Blk W1 w1.heap.size 62 (gcells G) := by rw [← hW1]; exact (Blk.new w1 _ (gcells g0)).row_same _
    have HW1 := Lib.hid hbw1
    have B8 := Lib.hid b8
    clear hW1 hbw1 b8
    refine (area_any w1.heap.size G HSO.out _ B8.out (HT.out.below HW1.out)).mono ?_
    rintro e w2 ⟨v, rfl, hv2, hb2⟩
    go_wp2
    go_ret2
    exact ⟨v, by rw [HE1.out]; rfl, by rw [HE2.out]; exact hv2, HW1.out.trans (hb2.mono HW1.out.size)⟩
  · have hok1 : ofOk l = false := by unfold ofOk; rw [← HN.out]; simpa using hok
    have e1 : ofE l = 290 := by unfold ofE; rw [hok1]; rfl
    have e2 : ofL l = [] := by unfold ofL; rw [hok1]; rfl
    have HE1 := Lib.hid e1
    have HE2 := Lib.hid e2
    obtain ⟨G, hG⟩ : ∃ G, G = setV (l.take k) := ⟨_, rfl⟩
    obtain ⟨f, hf⟩ : ∃ f, f = allOk (l.take k) := ⟨_, rfl⟩
    have hcond : f = true → 400 < n := by
      intro h
      rcases Nat.lt_or_ge 400 n with h' | h'
      · exact h'
      · exfalso; apply hok
        rw [hf, HK.out, Nat.min_eq_left h'] at h
        rw [List.take_of_length_le (by rw [← HN.out]; exact Nat.le_refl _)] at h
        rw [List.take_of_length_le (by rw [← HN.out]; exact h'), h]; simp [h']
    have HG := Lib.hid hG
    have HF := Lib.hid hf
    have HC := Lib.hid hcond
    clear hok1 e1 e2 hok hG hf hcond
    have hoo : ∀ p, f = p → (p = true → 400 < n) := fun p e h => HC.out (e.trans h)
    go_enter Tryd.func21, Tryd.ntmps21
    go_wp2_with (fail)
    refine (set_any _ _ w HS.out).mono ?_
    rintro e w1 ⟨rfl, hb1⟩
    rw [← HG.out, ← HF.out]
    have HB1 := Lib.hid hb1
    clear hb1
    cases hff : f
    · go_wp2_with (refine wpList_store_row rfl 62 _ _ rfl _ (gcells G) (by rfl) (by rfl) 62 (gcells g0) (Blk.new _ _ _) (grid_size _) (by rw [gcells_size, gcells_size]) (gcells_one _) ?_)
      go_ret2
      exact ⟨.slice none 0 0, by rw [HE1.out]; rfl, by rw [HE2.out]; exact Sl.nil _ _, mono0 _ _ _ (Below.refl _ _) HB1.out⟩
    · have hn4 : 400 < n := hoo true hff rfl
      go_wp2_with (refine wpList_store_row rfl 62 _ _ rfl _ (gcells G) (by rfl) (by rfl) 62 (gcells g0) (Blk.new _ _ _) (grid_size _) (by rw [gcells_size, gcells_size]) (gcells_one _) ?_)
      go_ret2
      exact ⟨.slice none 0 0, by rw [HE1.out]; rfl, by rw [HE2.out]; exact Sl.nil _ _, mono0 _ _ _ (Below.refl _ _) HB1.out⟩
/-! ### Has -/
theorem cell_lt {w : World} {a : Addr} {v : Value} (h : w.cell? a = some v) : a.block < w.heap.size := by
  unfold World.cell? at h
  split at h
  · rename_i hb; exact (Array.getElem?_eq_some_iff.1 hb).1
  · cases h
def inR (x y : Int) (q : Rct) : Bool := decide (q.l ≤ x) && decide (x < q.r) && decide (q.lo ≤ y) && decide (y < q.hi)
set_option maxHeartbeats 1000000 in
theorem hasf_any (q : Rct) (x y : Int) (bx by' : Nat) (w : World) (hx : w.cell? ⟨bx, 0, none⟩ = some (.int .i64 x)) (hy : w.cell? ⟨by', 0, none⟩ = some (.int .i64 y)) :
    Calls Tryd.prog 38 #[.agg #[.int .i64 q.l, .int .i64 q.r, .int .i64 q.lo, .int .i64 q.hi], .pointer (some ⟨bx, 0, none⟩), .pointer (some ⟨by', 0, none⟩)] w fun e w' => e = .returned (.bool (inR x y q)) ∧ Below w.heap.size w w' := by
  have lx : bx < w.heap.size := cell_lt hx
  have ly : by' < w.heap.size := cell_lt hy
  have kx : ∀ o, (w.alloc o).cell? ⟨bx, 0, none⟩ = some (.int .i64 x) := fun o => (((Below.refl _ w).alloc (Nat.le_refl _) o).cell (p := ⟨bx, 0, none⟩) lx).trans hx
  have ky : ∀ o, (w.alloc o).cell? ⟨by', 0, none⟩ = some (.int .i64 y) := fun o => (((Below.refl _ w).alloc (Nat.le_refl _) o).cell (p := ⟨by', 0, none⟩) ly).trans hy
  clear hx hy lx ly
  obtain ⟨b, hb⟩ : ∃ b, b = inR x y q := ⟨_, rfl⟩
  rw [← hb]
  unfold inR at hb
  by_cases h1 : q.l ≤ x
  · by_cases h2 : x < q.r
    · by_cases h3 : q.lo ≤ y
      · rw [dt h1, dt h2, dt h3] at hb
        have HB := Lib.hid hb
        clear hb
        go_enter Tryd.func38, Tryd.ntmps38
        go_wp2
        go_ret
        exact ⟨by rw [HB.out]; simp, (Below.refl _ _).alloc (Nat.le_refl _) _⟩
      · rw [df h3] at hb
        have HB := Lib.hid hb
        clear hb
        go_enter Tryd.func38, Tryd.ntmps38
        go_wp2
        go_ret
        exact ⟨by rw [HB.out]; simp, (Below.refl _ _).alloc (Nat.le_refl _) _⟩
    · rw [df h2] at hb
      have HB := Lib.hid hb
      clear hb
      go_enter Tryd.func38, Tryd.ntmps38
      go_wp2
      go_ret
      exact ⟨by rw [HB.out]; simp, (Below.refl _ _).alloc (Nat.le_refl _) _⟩
  · rw [df h1] at hb
    have HB := Lib.hid hb
    clear hb
    go_enter Tryd.func38, Tryd.ntmps38
    go_wp2
    go_ret
    exact ⟨by rw [HB.out]; simp, (Below.refl _ _).alloc (Nat.le_refl _) _⟩
set_option maxHeartbeats 1000000 in
theorem indexf_any (l : List Rct) (v : Value) (x y : Int) (bx by' : Nat) (w : World) (hl : SlR w v l) (hx : w.cell? ⟨bx, 0, none⟩ = some (.int .i64 x)) (hy : w.cell? ⟨by', 0, none⟩ = some (.int .i64 y)) :
    Calls Tryd.prog 48 #[v, .func (.func 38) #[] #[.pointer (some ⟨bx, 0, none⟩), .pointer (some ⟨by', 0, none⟩)]] w fun e w' => ∃ i : Int, e = .returned (.int .i64 i) ∧ decide (0 ≤ i) = l.any (inR x y) ∧ Below w.heap.size w w' := by
  obtain ⟨A, c, rfl, _, hcm, hf⟩ := hl.form
  have hal : l.length ≤ 9223372036854775807 := by unfold maxLen at hcm; omega
  obtain ⟨n, hn⟩ : ∃ n, n = l.length := ⟨_, rfl⟩
  rw [← hn] at hf hal ⊢
  have lx : bx < w.heap.size := cell_lt hx
  have ly : by' < w.heap.size := cell_lt hy
  have HN := Lib.hid hn
  have HF := Lib.hid hf
  have HX := Lib.hid hx
  have HY := Lib.hid hy
  clear hn hf hl hx hy hcm
  go_enter Tryd.func48, Tryd.ntmps48
  go_wp2
  go_loopw [5, 8] (fun _ i wr => ∃ k : Nat, k ≤ n ∧ i = .int .i64 (k : Int) ∧ Below w.heap.size w wr ∧ Hid ((l.take k).any (inR x y) = false)) (fun _ i _ => n - (intOf i).toNat)
  case atStart => exact ⟨0, by omega, rfl, Below.refl _ _, rfl⟩
  case round =>
    obtain ⟨k, hk, rfl, hb, ha⟩ := hrel
    by_cases hlt : k < n
    · obtain ⟨b, o, rfl, hbl, g⟩ := HF.out k hlt
      obtain ⟨p1, p2, p3, p4⟩ := g k hlt
      obtain ⟨q, hq⟩ : ∃ q, q = l.getD k default := ⟨_, rfl⟩
      rw [← hq] at p1 p2 p3 p4
      rw [← hb.cell (p := ⟨b, _, none⟩) hbl] at p1 p2 p3 p4
      have i0 : (0 : Int) ≤ (k : Int) := by omega
      have i1 : (k : Int) < (n : Int) := by omega
      have HQ := Lib.hid hq
      clear g hq
      have hx' := (hb.cell (p := ⟨bx, 0, none⟩) lx).trans HX.out
      have hy' := (hb.cell (p := ⟨by', 0, none⟩) ly).trans HY.out
      have HX' := Lib.hid hx'
      have HY' := Lib.hid hy'
      clear hx' hy'
      obtain ⟨f, hf⟩ : ∃ f, f = inR x y q := ⟨_, rfl⟩
      have HFF := Lib.hid hf
      clear hf
      have hkl : k < l.length := by rw [← HN.out]; exact hlt
      have hsz := hb.size
      have HKL := Lib.hid hkl
      clear hkl
      go_wp2_with (fail)
      refine (hasf_any q x y bx by' wr HX'.out HY'.out).mono ?_
      rintro e w1 ⟨rfl, hb1⟩
      have hbb := hb.trans (hb1.mono hsz)
      rw [← HFF.out]
      cases hff : f
      · have hnew : (l.take (k + 1)).any (inR x y) = false := by
          rw [take_snocR l k HKL.out, ← HQ.out, List.any_append, ha.out]
          simp [← HFF.out, hff]
        have HNW := Lib.hid hnew
        clear hnew hff
        go_wp2
        go_roundw
        case rel => exact ⟨k + 1, by omega, by go_num, hbb, HNW⟩
        case measure => simp [intOf]; omega
      · have hany : l.any (inR x y) = true := by
          rw [List.any_eq_true]
          refine ⟨q, ?_, by rw [← HFF.out]; exact hff⟩
          have h := HKL.out
          rw [HQ.out]; simp [List.getD, h]
        have HNW := Lib.hid hany
        clear hany hff
        go_wp2
        go_ret
        exact ⟨(k : Int), rfl, by rw [HNW.out, dt i0], hbb⟩
    · obtain rfl : k = n := by omega
      clear hlt hk
      go_wp2
      go_ret
      refine ⟨-1, rfl, ?_, hb⟩
      have := ha.out
      rw [List.take_of_length_le (by rw [HN.out]; exact Nat.le_refl _)] at this
      rw [this]; rfl
/-- slices.ContainsFunc -/
theorem containsf_any (l : List Rct) (v : Value) (x y : Int) (bx by' : Nat) (w : World) (hl : SlR w v l) (hx : w.cell? ⟨bx, 0, none⟩ = some (.int .i64 x)) (hy : w.cell? ⟨by', 0, none⟩ = some (.int .i64 y)) :
    Calls Tryd.prog 39 #[v, .func (.func 38) #[] #[.pointer (some ⟨bx, 0, none⟩), .pointer (some ⟨by', 0, none⟩)]] w fun e w' => e = .returned (.bool (l.any (inR x y))) ∧ Below w.heap.size w w' := by
  have H := Lib.hid (indexf_any l v x y bx by' w hl hx hy)
  clear hl hx hy
  go_enter Tryd.func39, Tryd.ntmps39
  go_wp2_with (fail)
  refine H.out.mono ?_
  rintro e w1 ⟨i, rfl, hi, hb⟩
  go_wp2
  go_ret
  exact ⟨by rw [← hi]; rfl, hb⟩
def hasL (l : List Rct) (x y : Int) : Bool := l.any (inR x y) && validL l
/-- Has -/
theorem hasA_any (l : List Rct) (v : Value) (x y : Int) (w : World) (hl : SlR w v l) (hT : HasTab w) :
    Calls Tryd.prog 17 #[v, .int .i64 x, .int .i64 y] w fun e w' => e = .returned (.bool (hasL l x y)) ∧ Below w.heap.size w w' := by
  have HL := Lib.hid hl
  have HT := Lib.hid hT
  clear hl hT
  go_enter Tryd.func17, Tryd.ntmps17
  go_wp2_with (fail)
  generalize hW : World.alloc (World.alloc _ _) _ = W
  have hbw : Below w.heap.size w W := by rw [← hW]; exact ((Below.refl _ _).alloc (Nat.le_refl _) _).alloc (by simp) _
  have hx : W.cell? ⟨w.heap.size, 0, none⟩ = some (.int .i64 x) := by rw [← hW]; exact ((Blk.new w _ _).alloc _).cell 0
  have hy : W.cell? ⟨w.heap.size + 1, 0, none⟩ = some (.int .i64 y) := by
    rw [← hW]
    have := Blk.new (w.alloc (.cells #[.int .i64 x] 3)) 3 #[.int .i64 y]
    rw [World.size_alloc] at this
    exact this.cell 0
  refine (containsf_any l v x y _ _ W (HL.out.below hbw) hx hy).mono ?_
  clear hx hy hW
  rintro e w1 ⟨rfl, hb1⟩
  have hb2 := hbw.trans (hb1.mono hbw.size)
  obtain ⟨f, hf⟩ : ∃ f, f = l.any (inR x y) := ⟨_, rfl⟩
  rw [← hf]
  have HF := Lib.hid hf
  clear hf
  cases hff : f
  · go_wp2
    go_ret
    refine ⟨?_, hb2⟩
    unfold hasL
    rw [← HF.out, hff]; rfl
  · go_wp2_with (fail)
    refine (valid_any l _ w1 (HL.out.below hb2) (HT.out.below hb2)).mono ?_
    rintro e w2 ⟨rfl, hb3⟩
    go_wp2
    go_ret
    refine ⟨?_, hb2.trans (hb3.mono hb2.size)⟩
    unfold hasL
    rw [← HF.out, hff]; rfl
end Go.Proofs.YtplamgmmncenjaaDoorR
