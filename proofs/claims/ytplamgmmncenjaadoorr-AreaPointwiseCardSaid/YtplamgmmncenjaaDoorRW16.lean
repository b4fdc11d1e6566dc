/- Walks of the reference: Made. -/
import Derived.Test.YtplamgmmncenjaaDoorRW15
namespace Go.Proofs.YtplamgmmncenjaaDoorR
open Go.RowKit Go.Shelf
theorem wpList_alloc_known {P : Program} {ops : Array Oper} {rest : List Oper} {o : Oper} {a : Act} {w : World} {Q : Exit → Act → World → Prop} (hgd : o.guard = none) (ty : TypeId) (ho : o.op = .alloc ty) (cs : Array Value)
    (hz : (P.info? ty).map (·.zero) = some (some (.agg cs))) (h : wpList P ops Q rest (a.put o.dst (.pointer (some ⟨w.heap.size, 0, none⟩))) (w.alloc (.cells cs ty))) : wpList P ops Q (o :: rest) a w := by
  refine wpList_plain hgd fun K hK => ?_
  cases hq : P.info? ty with
  | none => simp [hq] at hz
  | some i =>
    have hzi : i.zero = some (.agg cs) := by simpa [hq] using hz
    unfold Oper.wp execOp
    simp [ho, Instr.alloc, zeroValue, typeInfo, hq, hzi, newVar, newRow, Value.cells, go_sem]
    exact hK _ _ h
theorem grid54_zero : (Tryd.prog.info? 54).map (·.zero) = some (some (.agg (Array.replicate 4096 (.bool false)))) := by kernel_rfl
theorem grid54_size : (Tryd.prog.info? 54).map (·.size) = some 4096 := by kernel_rfl
abbrev BG := Nat → Nat → Bool
def toN (f : Nat → Bool) : Nat → Nat
  | 0 => 0
  | n + 1 => toN f n + if f n then 2 ^ n else 0
theorem toN_lt (f : Nat → Bool) (n : Nat) : toN f n < 2 ^ n := by
  induction n with
  | zero => simp [toN]
  | succ n ih => unfold toN; rw [Nat.pow_succ]; split <;> omega
theorem toN_bit (f : Nat → Bool) (n i : Nat) : (toN f n).testBit i = (decide (i < n) && f i) := by
  induction n with
  | zero => simp [toN]
  | succ n ih =>
    unfold toN
    have hlt := toN_lt f n
    by_cases hf : f n = true
    · rw [if_pos hf]
      by_cases hi : i = n
      · subst hi
        rw [Nat.add_comm, Nat.testBit_two_pow_add_eq, Nat.testBit_lt_two_pow hlt, hf]; simp
      · rcases Nat.lt_or_gt_of_ne hi with h | h
        · rw [Nat.add_comm, Nat.testBit_two_pow_add_gt h, ih]; simp [h, Nat.lt_succ_of_lt h]
        · have : (toN f n + 2 ^ n) < 2 ^ i := by
            have h1 : 2 ^ (n + 1) ≤ 2 ^ i := Nat.pow_le_pow_right (by omega) h
            rw [Nat.pow_succ] at h1; omega
          rw [Nat.testBit_lt_two_pow this]
          simp; omega
    · rw [if_neg hf, Nat.add_zero, ih]
      by_cases hi : i = n
      · subst hi; simp [hf]
      · have : (i < n) = (i < n + 1) := by apply propext; omega
        simp only [this]
def toG (B : BG) : Grd := fun y => toN (B y) 64
theorem toG_ok (B : BG) : (toG B).ok := fun y => toN_lt (B y) 64
theorem toG_bit (B : BG) (y x : Nat) : (toG B y).testBit x = (decide (x < 64) && B y x) := toN_bit _ _ _
def putB (B : BG) (Y X : Nat) (b : Bool) : BG := fun y x => if y = Y ∧ x = X then b else B y x
theorem bcellsN_zero (n : Nat) : bcellsN n (toG fun _ _ => false) = Array.replicate n (.bool false) := by
  apply Array.ext_getElem?
  intro i
  by_cases h : i < n
  · rw [bcellsN_at n _ i h, toG_bit]; simp [h]
  · simp [bcellsN, h]
theorem bcellsN_put (n : Nat) (B : BG) (Y X : Nat) (b : Bool) (hX : X < 64) : (bcellsN n (toG B)).setIfInBounds (Y * 64 + X) (.bool b) = bcellsN n (toG (putB B Y X b)) := by
  apply Array.ext_getElem?
  intro i
  by_cases h : i < n
  · rw [bcellsN_at n _ i h, toG_bit, Array.getElem?_setIfInBounds]
    by_cases e : Y * 64 + X = i
    · rw [if_pos e, if_pos (by rw [bcellsN_size]; omega)]
      have h1 : i / 64 = Y := by omega
      have h2 : i % 64 = X := by omega
      unfold putB
      rw [if_pos ⟨h1, h2⟩, h2]; simp [hX]
    · rw [if_neg e, bcellsN_at n _ i h, toG_bit]
      unfold putB
      rw [if_neg (fun hh => e (by omega))]
  · rw [Array.getElem?_eq_none (by simp [bcellsN]; omega), Array.getElem?_eq_none (by simp [bcellsN]; omega)]
theorem bcells_zero : bcells (toG fun _ _ => false) = Array.replicate 4096 (.bool false) := bcellsN_zero 4096
theorem bcells_put (B : BG) (Y X : Nat) (b : Bool) (hX : X < 64) : (bcells (toG B)).setIfInBounds (Y * 64 + X) (.bool b) = bcells (toG (putB B Y X b)) := bcellsN_put 4096 B Y X b hX
/-- the rectangle laid as far as place X of row Y -/
def upB (B : BG) (q : Rct) (b : Bool) (Y X : Int) : BG := fun y x => if (q.lo ≤ y ∧ (y : Int) < q.hi ∧ q.l ≤ x ∧ (x : Int) < q.r) ∧ ((y : Int) < Y ∨ ((y : Int) = Y ∧ (x : Int) < X)) then b else B y x
theorem upB_start (B : BG) (q : Rct) (b : Bool) : upB B q b q.lo q.l = B := by
  funext y x
  unfold upB
  rw [if_neg (by omega)]
theorem upB_row (B : BG) (q : Rct) (b : Bool) (Y : Int) : upB B q b Y q.r = upB B q b (Y + 1) q.l := by
  funext y x
  unfold upB
  by_cases h : (q.lo ≤ (y : Int) ∧ (y : Int) < q.hi ∧ q.l ≤ (x : Int) ∧ (x : Int) < q.r) ∧ ((y : Int) < Y ∨ ((y : Int) = Y ∧ (x : Int) < q.r))
  · rw [if_pos h, if_pos (by omega)]
  · rw [if_neg h, if_neg (by omega)]
theorem upB_put (B : BG) (q : Rct) (b : Bool) (Y X : Nat) (h1 : q.lo ≤ Y) (h2 : (Y : Int) < q.hi) (h3 : q.l ≤ X) (h4 : (X : Int) < q.r) : putB (upB B q b Y X) Y X b = upB B q b Y ((X : Int) + 1) := by
  funext y x
  unfold putB upB
  by_cases h : y = Y ∧ x = X
  · rw [if_pos h, if_pos (by omega)]
  · rw [if_neg h]
    by_cases h' : (q.lo ≤ (y : Int) ∧ (y : Int) < q.hi ∧ q.l ≤ (x : Int) ∧ (x : Int) < q.r) ∧ ((y : Int) < Y ∨ ((y : Int) = Y ∧ (x : Int) < X))
    · rw [if_pos h', if_pos (by omega)]
    · rw [if_neg h', if_neg (by omega)]
def fullB (B : BG) (q : Rct) (b : Bool) : BG := fun y x => if q.lo ≤ y ∧ (y : Int) < q.hi ∧ q.l ≤ x ∧ (x : Int) < q.r then b else B y x
theorem upB_full (B : BG) (q : Rct) (b : Bool) : upB B q b q.hi q.l = fullB B q b := by
  funext y x
  unfold upB fullB
  by_cases h : q.lo ≤ (y : Int) ∧ (y : Int) < q.hi ∧ q.l ≤ (x : Int) ∧ (x : Int) < q.r
  · rw [if_pos h, if_pos (by omega)]
  · rw [if_neg h, if_neg (by omega)]
def madeB (x : List Rct) : Nat → BG
  | 0 => fun _ _ => false
  | k + 1 => fullB (madeB x k) (oneQ (q4 (x.getD k default))) (k % 3 != 2)
def madeG (x : List Rct) : Grd := toG (madeB x (min x.length 6))
def madeL (x : List Rct) : List Rct := rectsG (madeG x)
set_option maxRecDepth 100000 in
set_option maxHeartbeats 1000000 in
theorem made_any (x : List Rct) (v : Value) (w : World) (h : SlR w v x) (hx : xok x) :
    Calls Tryd.prog 10 #[v] w fun e w' => ∃ v, e = .returned v ∧ SlR w' v (madeL x) ∧ Below w.heap.size w w' := by
  obtain ⟨A, c, rfl, _, hcm, hf⟩ := h.form
  have hal : x.length ≤ 9223372036854775807 := by unfold maxLen at hcm; omega
  obtain ⟨n, hn⟩ : ∃ n, n = x.length := ⟨_, rfl⟩
  rw [← hn] at hf hal ⊢
  have HN := Lib.hid hn
  have HF := Lib.hid hf
  have HX := Lib.hid hx
  clear hn hf h hcm hx
  go_enter Tryd.func10, Tryd.ntmps10
  go_wp2_with (refine wpList_alloc_known rfl 54 rfl _ grid54_zero ?_)
  rw [← bcells_zero]
  generalize hW : World.alloc _ _ = W0
  have b0 : Blk W0 w.heap.size 54 (bcells (toG (madeB x 0))) := by rw [← hW]; exact Blk.new _ _ _
  have bb : Below w.heap.size w W0 := by rw [← hW]; exact (Below.refl _ _).alloc (Nat.le_refl _) _
  clear hW
  obtain ⟨B, hB⟩ : ∃ B, B = w.heap.size := ⟨_, rfl⟩
  rw [← hB] at b0 ⊢
  have HBB := Lib.hid hB
  have B0 := Lib.hid b0
  clear b0 hB
  go_loopw [4, 5, 6, 7] (fun i _ _ _ wr => ∃ k : Nat, k ≤ n ∧ k ≤ 6 ∧ i = .int .i64 (k : Int) ∧ Hid (Blk wr B 54 (bcells (toG (madeB x k)))) ∧ Below w.heap.size w wr) (fun i _ _ _ _ => n - (intOf i).toNat)
  case atStart => exact ⟨0, by omega, by omega, rfl, B0, bb⟩
  case round =>
    obtain ⟨k, hk, hk6, rfl, hG, hb⟩ := hrel
    have fin : k = min n 6 → Blk wr B 54 (bcells (madeG x)) := fun e => by
      unfold madeG; rw [← HN.out, ← e]; exact hG.out
    have FIN := Lib.hid fin
    clear fin
    by_cases hlt : k < n
    · by_cases hl2 : (k : Int) < 6
      · obtain ⟨b, o, rfl, hbl, g⟩ := HF.out k hlt
        obtain ⟨p1, p2, p3, p4⟩ := g k hlt
        obtain ⟨q, hq⟩ : ∃ q, q = x.getD k default := ⟨_, rfl⟩
        rw [← hq] at p1 p2 p3 p4
        rw [← hb.cell (p := ⟨b, _, none⟩) hbl] at p1 p2 p3 p4
        have i0 : (0 : Int) ≤ (k : Int) := by omega
        have i1 : (k : Int) < (n : Int) := by omega
        have hkl : k < x.length := by rw [← HN.out]; exact hlt
        have hqo := HX.out k hkl
        rw [← hq] at hqo
        have HQO := Lib.hid hqo
        have hsz := hb.size
        obtain ⟨r, hr⟩ : ∃ r, r = oneQ (q4 q) := ⟨_, rfl⟩
        have hro : okR r = true := by rw [hr]; exact oneQ_ok _
        obtain ⟨r1, r2, r3, r4, r5, r6⟩ := okR_parts hro
        obtain ⟨bv, hbv⟩ : ∃ bv, bv = (k % 3 != 2) := ⟨_, rfl⟩
        have hbi : ((k : Int) % 3 != 2) = bv := by rw [hbv, Bool.eq_iff_iff]; simp; omega
        have hnx : madeB x (k + 1) = fullB (madeB x k) r bv := by rw [hr, hbv, hq]; rfl
        obtain ⟨Bk, hBk⟩ : ∃ Bk, Bk = madeB x k := ⟨_, rfl⟩
        rw [← hBk] at hnx hG
        have HNX := Lib.hid hnx
        have HR := Lib.hid hr
        have h1 := one_any (q4 q) HQO.out wr
        rw [← hr] at h1
        have H1 := Lib.hid h1
        clear h1
        clear g hq hkl hqo hnx hbv hBk hro hr
        go_wp2_with (fail)
        refine (H1.out).mono ?_
        rintro e w1 ⟨rfl, hb1⟩
        have hbb := hb.trans (hb1.mono hsz)
        have hB1 : Blk w1 B 54 (bcells (toG Bk)) := hG.out.below hb1 hG.out.lt
        have HBB1 := Lib.hid hbb
        have HB1 := Lib.hid hB1
        have hsz1 := hb1.size
        clear hbb hB1 hb hb1 hG p1 p2 p3 p4
        go_wp2
        generalize hW3 : World.alloc _ _ = W3
        obtain ⟨X, hX⟩ : ∃ X, X = w1.heap.size := ⟨_, rfl⟩
        rw [← hX]
        have bX : Blk W3 X 36 #[.int .i64 r.l, .int .i64 r.r, .int .i64 r.lo, .int .i64 r.hi] := by rw [← hW3, hX]; exact Blk.new _ _ _
        have bG : Blk W3 B 54 (bcells (toG (upB Bk r bv r.lo.toNat r.l.toNat))) := by
          rw [show ((r.lo.toNat : Nat) : Int) = r.lo by omega, show ((r.l.toNat : Nat) : Int) = r.l by omega, upB_start Bk r bv, ← hW3]
          exact HB1.out.alloc _
        have hBX : B < X := by rw [hX]; exact HB1.out.lt
        have hb3 : Below w.heap.size w W3 := by rw [← hW3]; exact HBB1.out.alloc (by omega) _
        have BX := Lib.hid bX
        have BG0 := Lib.hid bG
        have HB3 := Lib.hid hb3
        clear bX bG hb3 hW3 hX HB1 HBB1
        go_loopw [6, 7] (fun y _ wr => ∃ Y : Nat, r.lo ≤ Y ∧ (Y : Int) ≤ r.hi ∧ y = .int .i64 (Y : Int) ∧ Hid (Blk wr B 54 (bcells (toG (upB Bk r bv Y r.l.toNat)))) ∧ Hid (Blk wr X 36 #[.int .i64 r.l, .int .i64 r.r, .int .i64 r.lo, .int .i64 r.hi]) ∧ Below w.heap.size w wr) (fun y _ _ => 64 - (intOf y).toNat)
        case atStart => exact ⟨r.lo.toNat, by omega, by omega, by rw [show ((r.lo.toNat : Nat) : Int) = r.lo by omega], BG0, BX, HB3.out⟩
        case round =>
          obtain ⟨Y, hY1, hY2, rfl, bG, bX, hb4⟩ := hrel
          have c0 := bX.out.cell 0
          have c1 := bX.out.cell 1
          have c2 := bX.out.cell 2
          have c3 := bX.out.cell 3
          simp only [List.getElem?_toArray, List.getElem?_cons_zero, List.getElem?_cons_succ] at c0 c1 c2 c3
          have y0 : (0 : Int) ≤ (Y : Int) := by omega
          by_cases hYl : (Y : Int) < r.hi
          · have y1 : (Y : Int) < 64 := by omega
            go_wp2
            go_loopw [7] (fun z wr => ∃ Z : Nat, r.l ≤ Z ∧ (Z : Int) ≤ r.r ∧ z = .int .i64 (Z : Int) ∧ Hid (Blk wr B 54 (bcells (toG (upB Bk r bv Y Z)))) ∧ Hid (Blk wr X 36 #[.int .i64 r.l, .int .i64 r.r, .int .i64 r.lo, .int .i64 r.hi]) ∧ Below w.heap.size w wr) (fun z _ => 64 - (intOf z).toNat)
            case atStart => exact ⟨r.l.toNat, by omega, by omega, by rw [show ((r.l.toNat : Nat) : Int) = r.l by omega], bG, bX, hb4⟩
            case round =>
              obtain ⟨Z, hZ1, hZ2, rfl, bG5, bX5, hb5⟩ := hrel
              have d1 := bX5.out.cell 1
              simp only [List.getElem?_toArray, List.getElem?_cons_zero, List.getElem?_cons_succ] at d1
              have z0 : (0 : Int) ≤ (Z : Int) := by omega
              by_cases hZl : (Z : Int) < r.r
              · have z1 : (Z : Int) < 64 := by omega
                have hc : wr.cell? ⟨B, Y * 64 + Z, none⟩ = some (.bool ((toG (upB Bk r bv Y Z) Y).testBit Z)) := by
                  rw [bG5.out.cell, bcells_at _ _ (by omega), show (Y * 64 + Z) / 64 = Y by omega, show (Y * 64 + Z) % 64 = Z by omega]
                have hfz : wr.frozen? ⟨B, Y * 64 + Z, none⟩ = false := bG5.out.frozen _
                have hnb := bG5.out.set_ (Y * 64 + Z) (.bool bv)
                rw [bcells_put _ _ _ _ (by omega), upB_put Bk r bv Y Z hY1 hYl hZ1 hZl] at hnb
                have hnx := bX5.out.far (p := ⟨B, Y * 64 + Z, none⟩) (by show X ≠ B; omega) (.bool bv)
                have hbn : Below w.heap.size w (wr.setCell ⟨B, Y * 64 + Z, none⟩ (.bool bv)) := hb5.setCell (by show w.heap.size ≤ B; rw [HBB.out]; exact Nat.le_refl _) _
                have HNB := Lib.hid hnb
                have HNX2 := Lib.hid hnx
                have HBN := Lib.hid hbn
                clear hnb hnx hbn
                go_wp2
                go_roundw
                case rel => exact ⟨Z + 1, by omega, by omega, by go_num, HNB, HNX2, HBN.out⟩
                case measure => simp [intOf]; omega
              · have hZe : (Z : Int) = r.r := by omega
                have hnb := bG5.out
                rw [hZe, upB_row] at hnb
                rw [show (Y : Int) + 1 = ((Y + 1 : Nat) : Int) by omega, show r.l = ((r.l.toNat : Nat) : Int) by omega] at hnb
                have HNB := Lib.hid hnb
                have HBN := Lib.hid hb5
                clear hnb hZe
                go_wp2
                go_roundw
                case rel => exact ⟨Y + 1, by omega, by omega, by go_num, HNB, bX5, HBN.out⟩
                case measure => simp [intOf]; omega
          · have hYe : (Y : Int) = r.hi := by omega
            have hnb := bG.out
            rw [hYe, show ((r.l.toNat : Nat) : Int) = r.l by omega, upB_full, ← HNX.out] at hnb
            have HNB := Lib.hid hnb
            clear hnb hYe
            go_wp2
            go_roundw
            case rel => exact ⟨k + 1, by omega, by omega, by go_num, HNB, hb4⟩
            case measure => simp [intOf]; omega
      · have hfin := FIN.out (by omega)
        have HFIN := Lib.hid hfin
        clear hfin hG
        go_wp2_with (refine wpList_load_row rfl 54 _ rfl B (by rfl) 54 (bcells (madeG x)) (0, 0) _ HFIN.out Tryd.underlying54 rfl (by rw [bcells_size]; exact grid54_size) ?_)
        refine (rectsB_any (madeG x) (toG_ok _) wr).mono ?_
        rintro e w2 ⟨v, rfl, hv, hb2⟩
        go_wp2
        go_ret
        exact ⟨v, rfl, hv, hb.trans (hb2.mono hb.size)⟩
    · have hfin := FIN.out (by omega)
      have HFIN := Lib.hid hfin
      obtain rfl : k = n := by omega
      clear hfin hG
      go_wp2_with (refine wpList_load_row rfl 54 _ rfl B (by rfl) 54 (bcells (madeG x)) (0, 0) _ HFIN.out Tryd.underlying54 rfl (by rw [bcells_size]; exact grid54_size) ?_)
      refine (rectsB_any (madeG x) (toG_ok _) wr).mono ?_
      rintro e w2 ⟨v, rfl, hv, hb2⟩
      go_wp2
      go_ret
      exact ⟨v, rfl, hv, hb.trans (hb2.mono hb.size)⟩
end Go.Proofs.YtplamgmmncenjaaDoorR
