/- Walk of the law AreaCanonical. -/
import Derived.Test.YtplamgmmncenjaaDoorRW22
import Derived.Test.YtplamgmmncenjaaDoorRP11
import Derived.Test.YtplamgmmncenjaaDoorRR3
namespace Go.Proofs.YtplamgmmncenjaaDoorR
open Go.RowKit
theorem rect_sz : (Tryd.prog.info? 36).map (·.size) = some 4 := by kernel_rfl
theorem tdiv_int {c d : Int} (h : isInt c) (hd : 1 ≤ d) : isInt (c.tdiv d) := by
  obtain ⟨h1, h2⟩ := h
  rcases Int.le_total 0 c with h0 | h0
  · have a1 := Int.tdiv_nonneg h0 (by omega : 0 ≤ d)
    have a2 : c.tdiv d ≤ c := by rw [Int.tdiv_eq_ediv_of_nonneg h0]; exact Int.ediv_le_self _ h0
    exact ⟨by omega, by omega⟩
  · have e : c.tdiv d = -((-c).tdiv d) := by rw [Int.neg_tdiv]; omega
    have a1 := Int.tdiv_nonneg (show 0 ≤ -c by omega) (by omega : 0 ≤ d)
    have a2 : (-c).tdiv d ≤ -c := by rw [Int.tdiv_eq_ediv_of_nonneg (by omega)]; exact Int.ediv_le_self _ (by omega)
    exact ⟨by omega, by omega⟩
theorem own_form {w : World} {base : Nat} {v : Value} {L : List Rct} (h : w.ownsRow base 36 4 v L.length (cellsR L)) (h0 : 0 < L.length) : ∃ p cap, v = .slice (some ⟨p, 0, none⟩) L.length cap ∧ base ≤ p ∧ L.length ≤ cap ∧ cap ≤ maxLen := by
  rcases h.2 with ⟨_, e⟩ | ⟨p, cap, cur, rfl, hb, _, hn, hm, _⟩
  · omega
  · exact ⟨p, cap, rfl, hb, hn, hm⟩
theorem setCells4 (w : World) (b o : Nat) (x y z t : Value) : w.setCells b o [x, y, z, t] = (((w.setCell ⟨b, o, none⟩ x).setCell ⟨b, o + 1, none⟩ y).setCell ⟨b, o + 1 + 1, none⟩ z).setCell ⟨b, o + 1 + 1 + 1, none⟩ t := rfl
theorem own_there {w : World} {base p n cap N : Nat} {L : List Rct} (h : w.ownsRow base 36 4 (.slice (some ⟨p, 0, none⟩) n cap) N (cellsR L)) (hN : N = L.length) {k : Nat} (hk : k < L.length) : w.there p (k * 4) 4 := by
  subst hN
  rcases h.2 with ⟨e, _⟩ | ⟨p', cap', cur, e, _, hh, hn, _, hs, _⟩
  · cases e
  · cases e
    have hB : Blk w p 36 cur := hh
    intro j hj
    refine ⟨?_, hB.frozen _⟩
    rw [hB.cell, Array.getElem?_eq_getElem (by rw [hs]; omega)]; rfl
theorem blk_setCells4 {w : World} {g p : Nat} {t : TypeId} {cs : Array Value} (h : Blk w g t cs) (hg : g ≠ p) (o : Nat) (x y z u : Value) : Blk (w.setCells p o [x, y, z, u]) g t cs := by
  rw [setCells4]
  exact (((h.far hg _).far hg _).far hg _).far hg _
theorem below_setCells4 {B : Nat} {a w : World} (h : Below B a w) {p : Nat} (hp : B ≤ p) (o : Nat) (x y z u : Value) : Below B a (w.setCells p o [x, y, z, u]) := by
  rw [setCells4]
  exact (((h.setCell hp _).setCell hp _).setCell hp _).setCell hp _
theorem cells_cover (L : List Rct) (i : Nat) (hi : i < L.length * 4) : (cellsR L)[i]? = (encR (L.getD (i / 4) default))[i % 4]? := by
  have e : i = i / 4 * 4 + i % 4 := by omega
  conv => lhs; rw [e]
  exact cellsR_get L (i / 4) (i % 4) (by omega) (Nat.mod_lt _ (by decide))
theorem own_set {w : World} {base p n cap N : Nat} {L : List Rct} (h : w.ownsRow base 36 4 (.slice (some ⟨p, 0, none⟩) n cap) N (cellsR L)) (hN : N = L.length) {k : Nat} (hk : k < L.length) (q : Rct) :
    (w.setCells p (k * 4) (encR q)).ownsRow base 36 4 (.slice (some ⟨p, 0, none⟩) n cap) N (cellsR (L.set k q)) := by
  subst hN
  rcases h.2 with ⟨e, _⟩ | ⟨p', cap', cur, e, hb, hh, hn, hm, hs, ht⟩
  · cases e
  · cases e
    have hB : Blk w p 36 cur := hh
    have hB4 := (((hB.set_ (k * 4) (.int .i64 q.l)).set_ (k * 4 + 1) (.int .i64 q.r)).set_ (k * 4 + 1 + 1) (.int .i64 q.lo)).set_ (k * 4 + 1 + 1 + 1) (.int .i64 q.hi)
    have hll : (L.set k q).length = L.length := List.length_set
    refine ⟨by rw [cellsR_len, hll], .inr ⟨p, cap, _, rfl, hb, hB4, hn, hm, by simpa using hs, ?_⟩⟩
    apply List.ext_getElem?
    intro i
    by_cases hi : i < L.length * 4
    · have hcur : cur.toList[i]? = (encR (L.getD (i / 4) default))[i % 4]? := by
        have := congrArg (·[i]?) ht
        simp only [List.getElem?_take, if_pos hi] at this
        rw [this, cells_cover L i hi]
      rw [List.getElem?_take, if_pos hi, cells_cover _ i (by rw [List.length_set]; exact hi)]
      have hsz : i < cur.size := by rw [hs]; omega
      have hcur' : cur[i]? = (encR (L.getD (i / 4) default))[i % 4]? := by rw [← hcur]; simp
      rw [Array.getElem?_toList]
      by_cases e : i / 4 = k
      · have hg : (L.set k q).getD (i / 4) default = q := by rw [e]; simp [List.getD, hk]
        rw [hg]
        have hi4 : i = k * 4 + i % 4 := by omega
        have hr : i % 4 < 4 := Nat.mod_lt _ (by decide)
        generalize i % 4 = r at *
        subst hi4
        match r, hr with
        | 0, _ => simp only [Nat.add_zero]; rw [Array.getElem?_setIfInBounds_ne (by omega), Array.getElem?_setIfInBounds_ne (by omega), Array.getElem?_setIfInBounds_ne (by omega), Array.getElem?_setIfInBounds_self, if_pos (by simpa using hsz)]; rfl
        | 1, _ => rw [Array.getElem?_setIfInBounds_ne (by omega), Array.getElem?_setIfInBounds_ne (by omega), Array.getElem?_setIfInBounds_self, if_pos (by simpa using hsz)]; rfl
        | 2, _ => rw [show k * 4 + 2 = k * 4 + 1 + 1 from rfl, Array.getElem?_setIfInBounds_ne (by omega), Array.getElem?_setIfInBounds_self, if_pos (by simpa using hsz)]; rfl
        | 3, _ => rw [show k * 4 + 3 = k * 4 + 1 + 1 + 1 from rfl, Array.getElem?_setIfInBounds_self, if_pos (by simpa using hsz)]; rfl
      · have hg : (L.set k q).getD (i / 4) default = L.getD (i / 4) default := by
          simp only [List.getD_eq_getElem?_getD]; rw [List.getElem?_set_ne (fun h => e h.symm)]
        rw [hg, ← hcur']
        rw [Array.getElem?_setIfInBounds_ne (by omega), Array.getElem?_setIfInBounds_ne (by omega), Array.getElem?_setIfInBounds_ne (by omega), Array.getElem?_setIfInBounds_ne (by omega)]
    · rw [List.getElem?_eq_none (by rw [List.length_take]; omega), List.getElem?_eq_none (by rw [cellsR_len, List.length_set]; omega)]
set_option maxRecDepth 100000 in
set_option maxHeartbeats 40000000 in
theorem acanonical_any (x : List Rct) (which cut again : Int) (vx : Value) (w : World) (hx : SlR w vx x) (ox : xok x) (hwh : isInt which) (hcu : isInt cut) (hag : isInt again) (hT : HasTab w) :
    Calls Tryd.prog 4 #[vx, .int .i64 which, .int .i64 cut, .int .i64 again] w fun e w' => e = .returned (.bool true) ∧ Below w.heap.size w w' := by
  obtain ⟨A0, n0, c0, k0, rfl, hn0, hnc0, hkn0, hkc0, hkm0, hmin0, hs0⟩ := hx.trim 6 (m := 6) rfl
  have OX := Lib.hid (xok_take ox 6)
  obtain ⟨l, hl⟩ : ∃ l, l = listL (x.take 6) := ⟨_, rfl⟩
  have hok : allOk l = true := by rw [hl]; exact listL_ok _
  have hlen : l.length ≤ 6 := by rw [hl]; exact Nat.le_trans (listL_len _) (take_min_len _ _)
  obtain ⟨a, F⟩ := canon_facts l hok hlen
  have FF := Lib.hid F; have HL := Lib.hid hl.symm; have HOK := Lib.hid hok
  obtain ⟨n, hn⟩ : ∃ n, n = l.length := ⟨_, rfl⟩
  have hn6 : n ≤ 6 := by rw [hn]; exact hlen
  have HN := Lib.hid hn
  have hS := St.start hT
  have hS := hS.step (Below.refl _ w) hs0
  clear F hl hok hlen hn ox hx hs0
  have HS := Lib.hid hS; clear hS hT
  by_cases hz : n = 0
  · go_enter Tryd.func4, Tryd.ntmps4
    go_wp2_with (fail)
    refine (sane_st HS.out).mono ?_
    rintro e w1 ⟨rfl, hS⟩
    clear HS; have HS := Lib.hid hS; clear hS
    go_wp2_with (fail)
    refine (list_st HS.out 0 rfl OX.out HL.out).mono ?_
    rintro e w2 ⟨v2, rfl, hS⟩
    clear HS; have HS := Lib.hid hS; clear hS
    obtain ⟨Al, cl, hvl, hll, hml, _⟩ := (HS.out.get 0 rfl).form
    subst hvl
    rw [← HN.out] at HS hll ⊢
    subst hz
    go_wp2_with (fail)
    refine (of_st HS.out 0 rfl FF.out.e1 FF.out.l1).mono ?_
    rintro e w3 ⟨v3, rfl, hS⟩
    clear HS; have HS := Lib.hid hS; clear hS
    go_wp2_with (fail)
    refine (valid_st HS.out 0 rfl FF.out.v).mono ?_
    rintro e w4 ⟨rfl, hS⟩
    clear HS; have HS := Lib.hid hS; clear hS
    go_wp2_with (fail)
    refine (of_st HS.out 0 rfl FF.out.e2 FF.out.l2).mono ?_
    rintro e w5 ⟨v5, rfl, hS⟩
    clear HS; have HS := Lib.hid hS; clear hS
    go_wp2_with (fail)
    refine (same_st HS.out 0 1 rfl rfl FF.out.s).mono ?_
    rintro e w6 ⟨rfl, hS⟩
    clear HS; have HS := Lib.hid hS; clear hS
    go_wp2_with (fail)
    refine (same_st HS.out 0 1 rfl rfl FF.out.s).mono ?_
    rintro e w7 ⟨rfl, hS⟩
    clear HS; have HS := Lib.hid hS; clear hS
    go_wp2_with (fail)
    go_ret
    exact ⟨rfl, HS.out.bel⟩
  · have hz1 : 0 < n := by omega
    have hnz : ((n : Int) == 0) = false := by rw [beq_eq_false_iff_ne]; omega
    go_enter Tryd.func4, Tryd.ntmps4
    go_wp2_with (fail)
    refine (sane_st HS.out).mono ?_
    rintro e w1 ⟨rfl, hS⟩
    clear HS; have HS := Lib.hid hS; clear hS
    go_wp2_with (fail)
    refine (list_st HS.out 0 rfl OX.out HL.out).mono ?_
    rintro e w2 ⟨v2, rfl, hS⟩
    clear HS; have HS := Lib.hid hS; clear hS
    obtain ⟨Al, cl, hvl, hll, hml, _⟩ := (HS.out.get 0 rfl).form
    subst hvl
    rw [← HN.out] at HS hll ⊢
    go_wp2_with (fail)
    refine (of_st HS.out 0 rfl FF.out.e1 FF.out.l1).mono ?_
    rintro e w3 ⟨v3, rfl, hS⟩
    clear HS; have HS := Lib.hid hS; clear hS
    go_wp2_with (fail)
    refine (valid_st HS.out 0 rfl FF.out.v).mono ?_
    rintro e w4 ⟨rfl, hS⟩
    clear HS; have HS := Lib.hid hS; clear hS
    go_wp2_with (fail)
    refine (of_st HS.out 0 rfl FF.out.e2 FF.out.l2).mono ?_
    rintro e w5 ⟨v5, rfl, hS⟩
    clear HS; have HS := Lib.hid hS; clear hS
    go_wp2_with (fail)
    refine (same_st HS.out 0 1 rfl rfl FF.out.s).mono ?_
    rintro e w6 ⟨rfl, hS⟩
    clear HS; have HS := Lib.hid hS; clear hS
    go_wp2_with (fail)
    have hv := HS.out.get 2 rfl
    obtain ⟨A', c', hAc, _, hcm, hf⟩ := hv.form
    rw [← HN.out] at hAc hf
    cases hAc
    have HF := Lib.hid hf; clear hf hv hcm
    go_loopw [15, 16] (fun m i wr => ∃ k : Nat, k ≤ n ∧ i = .int .i64 ((k : Int) - 1) ∧ Hid (wr.ownsRow w6.heap.size 36 4 m (l.drop k).reverse.length (cellsR (l.drop k).reverse)) ∧ Below w6.heap.size w6 wr) (fun _ i _ => (intOf i + 1).toNat)
    case atStart => exact ⟨n, Nat.le_refl _, rfl, by rw [List.drop_of_length_le (by rw [← HN.out]; exact Nat.le_refl _)]; exact Lib.hid (World.ownsRow_nil _ _ _ _), Below.refl _ _⟩
    case round =>
      obtain ⟨k, hk, rfl, ho, hb⟩ := hrel
      by_cases hk0 : k = 0
      · subst hk0
        rw [show ((0 : Nat) : Int) - 1 = -1 by omega]
        rw [List.drop_zero] at ho
        obtain ⟨j, hj, hjn⟩ : ∃ j : Nat, pickI again n = (j : Int) ∧ j < n := by
          have := pickI_range (c := again) (n := (n : Int)) (by omega)
          exact ⟨(pickI again n).toNat, by omega, by omega⟩
        obtain ⟨b, of', rfl, hbl, gg⟩ := HF.out j hjn
        obtain ⟨p1, p2, p3, p4⟩ := gg j hjn
        rw [← hb.cell (p := ⟨b, _, none⟩) hbl] at p1 p2 p3 p4
        have i0 : (0 : Int) ≤ (j : Int) := by omega
        have i1 : (j : Int) < (n : Int) := by omega
        clear gg
        go_wp2_with (fail)
        refine (pickA_any again n hag (by omega) (by omega) _).mono ?_
        rintro e w' ⟨rfl, rfl⟩
        rw [hj]
        have HJ := Lib.hid hj; clear hj
        have hm0 : l.reverse.length ≤ 6 := by rw [List.length_reverse, ← HN.out]; exact hn6
        have HM0 := Lib.hid hm0; clear hm0
        obtain ⟨r0, hr0⟩ : ∃ r, r = l.getD j default := ⟨_, rfl⟩
        rw [← hr0] at p1 p2 p3 p4
        have HR0 := Lib.hid hr0; clear hr0
        go_wp2_with (refine wpList_append_rect rfl (.tmp 85) (.tmp 93) rfl w6.heap.size u15 l.reverse r0 wr.heap.size _ rfl rfl (ho.out.alloc _) (Blk.new _ _ _) (Nat.le_trans HM0.out (by omega)) (Nat.le_trans hb.size (by simp)) ?_)
        intro v1 wA ho1 hg1
        have hbA : Below w6.heap.size w6 wA := own_below (hb.alloc hb.size _) (ho.out.alloc _) (Nat.le_trans hb.size (by simp)) hg1
        obtain ⟨m1, hm1⟩ : ∃ m, m = l.reverse ++ [r0] := ⟨_, rfl⟩
        rw [← hm1] at ho1
        obtain ⟨n1, hn1⟩ : ∃ q, q = n + 1 := ⟨_, rfl⟩
        have hl1 : m1.length = n1 := by rw [hm1, hn1, HN.out]; simp
        replace ho1 : wA.ownsRow w6.heap.size 36 4 v1 m1.length (cellsR m1) := by rw [hl1, hn1, HN.out]; exact ho1
        obtain ⟨g1, cap1, rfl, hgb, hcl1, hcm1⟩ := own_form ho1 (by rw [hl1]; omega)
        have hS1 := Sl.of_own ho1
        obtain ⟨A2, c2, hA2, _, _, hf2⟩ := SlR.form hS1
        cases hA2
        have HO1 := Lib.hid ho1
        have HM1 := Lib.hid hm1
        have HL1 := Lib.hid hl1
        rw [hl1]
        obtain ⟨k, hk, hkn⟩ : ∃ k : Nat, pickI which n1 = (k : Int) ∧ k < n1 := by
          have := pickI_range (c := which) (n := (n1 : Int)) (by omega)
          exact ⟨(pickI which n1).toNat, by omega, by omega⟩
        obtain ⟨b2, o2, e2, _, g2⟩ := hf2 k (by omega)
        cases e2
        obtain ⟨q1, q2, q3, q4⟩ := g2 k (by omega)
        simp only [Nat.zero_add] at q1 q2 q3 q4
        have hro : okR (m1.getD k default) = true := by
          have hall : allOk m1 = true := by
            rw [hm1]
            unfold allOk
            rw [List.all_append, List.all_reverse]
            have h1 : l.all okR = true := HOK.out
            rw [h1]
            have h2 : okR r0 = true := by rw [HR0.out]; exact allOk_getD HOK.out (by rw [← HN.out]; exact hjn)
            simp [h2]
          exact allOk_getD hall (by omega)
        obtain ⟨r, hr⟩ : ∃ r, r = m1.getD k default := ⟨_, rfl⟩
        rw [← hr] at q1 q2 q3 q4 hro
        have HRR := Lib.hid hr
        have HRO := Lib.hid hro
        have HBA := Lib.hid hbA
        have hn17 : n1 ≤ 7 := by omega
        have hn18 : 0 < n1 := by omega
        have hcl2 : n1 ≤ cap1 := by rw [← hl1]; exact hcl1
        have hcap : cap1 ≤ 9223372036854775807 := by unfold maxLen at hcm1; omega
        have HN1 := Lib.hid hn1
        have HGB := Lib.hid hgb
        have i2 : (0 : Int) ≤ (k : Int) := by omega
        have i3 : (k : Int) < (n1 : Int) := by omega
        clear hn1 hcl1 hcm1 hgb g2 hf2 hS1 ho1 hm1 hl1 hr hro hg1 hbA ho hb p1 p2 p3 p4 hbl
        go_wp2_with (fail)
        refine (pickA_any which n1 hwh (by omega) (by omega) _).mono ?_
        rintro e w' ⟨rfl, rfl⟩
        rw [hk]
        clear hag hwh
        have HK := Lib.hid hk; clear hk
        go_wp2_with (fail)
        have HO1L := Lib.hid (show w6.heap.size ≤ wA.heap.size from HBA.out.size)
        obtain ⟨B, hBB⟩ : ∃ B, B = wA.heap.size := ⟨_, rfl⟩
        generalize hW2 : World.alloc (World.alloc (World.alloc wA _) _) _ = W2
        have b18 : Blk W2 B 36 #[.int .i64 r.l, .int .i64 r.r, .int .i64 r.lo, .int .i64 r.hi] := by rw [← hW2, hBB]; exact ((Blk.new wA _ _).alloc _).alloc _
        have b19 : Blk W2 (B + 1) 36 #[.int .i64 r.l, .int .i64 r.r, .int .i64 r.lo, .int .i64 r.hi] := by
          rw [← hW2, hBB]
          have := (Blk.new (wA.alloc (.cells #[.int .i64 r.l, .int .i64 r.r, .int .i64 r.lo, .int .i64 r.hi] 36)) 36 #[.int .i64 r.l, .int .i64 r.r, .int .i64 r.lo, .int .i64 r.hi]).alloc (.cells #[.int .i64 r.l, .int .i64 r.r, .int .i64 r.lo, .int .i64 r.hi] 36)
          rwa [World.size_alloc] at this
        have b20 : Blk W2 (B + 1 + 1) 36 #[.int .i64 r.l, .int .i64 r.r, .int .i64 r.lo, .int .i64 r.hi] := by
          rw [← hW2, hBB]
          have := Blk.new ((wA.alloc (.cells #[.int .i64 r.l, .int .i64 r.r, .int .i64 r.lo, .int .i64 r.hi] 36)).alloc (.cells #[.int .i64 r.l, .int .i64 r.r, .int .i64 r.lo, .int .i64 r.hi] 36)) 36 #[.int .i64 r.l, .int .i64 r.r, .int .i64 r.lo, .int .i64 r.hi]
          rwa [World.size_alloc, World.size_alloc] at this
        have bw2 : Below wA.heap.size wA W2 := by rw [← hW2]; exact (((Below.refl _ _).alloc (Nat.le_refl _) _).alloc (by simp) _).alloc (by rw [World.size_alloc, World.size_alloc]; omega) _
        rw [← hBB] at bw2 ⊢
        have hgA : g1 < B := by rw [hBB]; exact (HO1.out.lt g1 rfl).2
        have c0 : W2.cell? ⟨B, 0, none⟩ = some (.int .i64 r.l) := b18.cell 0
        have c1 : W2.cell? ⟨B, 1, none⟩ = some (.int .i64 r.r) := b18.cell 1
        have c2 : W2.cell? ⟨B, 2, none⟩ = some (.int .i64 r.lo) := b18.cell 2
        have c3 : W2.cell? ⟨B, 3, none⟩ = some (.int .i64 r.hi) := b18.cell 3
        have hB18 := Lib.hid b18
        have hB19 := Lib.hid b19
        have hB20 := Lib.hid b20
        have HBW := Lib.hid bw2
        have HEB := Lib.hid hBB
        obtain ⟨rl0, rlr, rr1, rlo0, rlh, rhi1⟩ := okR_parts HRO.out
        have icut : isInt cut := hcu
        have hc2 : isInt (cut.tdiv 2) := tdiv_int hcu (by omega)
        have hc4 : isInt (cut.tdiv 4) := tdiv_int hcu (by omega)
        obtain ⟨u0, u1⟩ := id hcu
        obtain ⟨t0, t1⟩ := id hc2
        obtain ⟨f0, f1⟩ := id hc4
        have HC2 := Lib.hid hc2; have HC4 := Lib.hid hc4
        clear hW2 b18 b19 b20 bw2 hBB hc2 hc4
        refine (pickA_any cut 2 hcu (by omega) (by omega) _).mono ?_
        rintro e w' ⟨rfl, rfl⟩
        have hp2 := pickI_range (c := cut) (n := 2) (by omega)
        obtain ⟨pc, hpc⟩ : ∃ p, p = pickI cut 2 := ⟨_, rfl⟩
        rw [← hpc] at hp2 ⊢
        have hpc2 : pc = 0 ∨ pc = 1 := by omega
        clear hpc hp2 icut
        rcases hpc2 with rfl | rfl
        · have hrange : 0 < r.r - r.l := by omega
          have hc := pickI_range (c := cut.tdiv 2) (n := r.r - r.l) (by omega)
          obtain ⟨c, hcc⟩ : ∃ c, c = pickI (cut.tdiv 2) (r.r - r.l) := ⟨_, rfl⟩
          have kc : ∀ W0 : World, Calls Tryd.prog 11 #[.int .i64 (cut.tdiv 2), .int .i64 (r.r - r.l)] W0 fun e w' => e = .returned (.int .i64 c) ∧ W0 = w' := fun W0 => by rw [hcc]; exact pickA_any _ _ HC2.out (by omega) (by omega) W0
          rw [← hcc] at hc
          have KC := Lib.hid kc; clear kc hcc
          go_wp2_with (fail)
          refine region_quiet_tail_lit 11 (by kernel_rfl) (by kernel_rfl) ?_
          simp only [List.take_succ_cons, List.take_zero, List.drop_succ_cons, List.drop_zero]
          iterate 10 (go_big_quiet_step (fail))
          go_big_quiet_step (exact quiet_same (KC.out _))
          refine wpQuiet_nil ?_
          intro _ hw'
          obtain ⟨nq, hw''⟩ := hw'
          subst hw''
          have e19 : (W2.drewN nq).cell? ⟨B + 1, 1, none⟩ = some (.int .i64 r.r) := hB19.out.cell 1
          have z19 : (W2.drewN nq).frozen? ⟨B + 1, 1, none⟩ = false := hB19.out.frozen 1
          go_wp2_with (fail)
          obtain ⟨e, he⟩ : ∃ e, e = r.l + 1 + c := ⟨_, rfl⟩
          rw [← he]
          have he1 : r.l < e := by omega
          have he2 : e ≤ r.r := by omega
          generalize hW3 : World.setCell _ _ _ = W3
          have b19 : Blk W3 (B + 1) 36 #[.int .i64 r.l, .int .i64 e, .int .i64 r.lo, .int .i64 r.hi] := by rw [← hW3]; exact (hB19.out.drewN nq).set_ 1 _
          have b18 : Blk W3 B 36 #[.int .i64 r.l, .int .i64 r.r, .int .i64 r.lo, .int .i64 r.hi] := by rw [← hW3]; exact (hB18.out.drewN nq).far (show B ≠ B + 1 by omega) _
          have b20 : Blk W3 (B + 1 + 1) 36 #[.int .i64 r.l, .int .i64 r.r, .int .i64 r.lo, .int .i64 r.hi] := by rw [← hW3]; exact (hB20.out.drewN nq).far (show B + 1 + 1 ≠ B + 1 by omega) _
          have bw3 : Below B wA W3 := by rw [← hW3]; exact (below_drewN HBW.out nq).setCell (show B ≤ B + 1 by omega) _
          have y0 : W3.cell? ⟨B, 0, none⟩ = some (.int .i64 r.l) := b18.cell 0
          have y1 : W3.cell? ⟨B + 1, 1, none⟩ = some (.int .i64 e) := b19.cell 1
          have hd := pickI_range (c := cut.tdiv 4) (n := e - r.l) (by omega)
          obtain ⟨d, hdd⟩ : ∃ d, d = pickI (cut.tdiv 4) (e - r.l) := ⟨_, rfl⟩
          have kd : ∀ W0 : World, Calls Tryd.prog 11 #[.int .i64 (cut.tdiv 4), .int .i64 (e - r.l)] W0 fun e w' => e = .returned (.int .i64 d) ∧ W0 = w' := fun W0 => by rw [hdd]; exact pickA_any _ _ HC4.out (by omega) (by omega) W0
          rw [← hdd] at hd
          have hcx : c = e - r.l - 1 := by omega
          have HCX := Lib.hid hcx; have HHC := Lib.hid hc
          have KD := Lib.hid kd; have B19 := Lib.hid b19; have B20 := Lib.hid b20; have BW3 := Lib.hid bw3; have HE := Lib.hid he
          clear kd hdd b18 b19 b20 bw3 hW3 e19 z19 c0 c1 c2 c3 hcx hc he hrange
          refine region_quiet_tail_lit 10 (by kernel_rfl) (by kernel_rfl) ?_
          simp only [List.take_succ_cons, List.take_zero, List.drop_succ_cons, List.drop_zero]
          iterate 9 (go_big_quiet_step (fail))
          go_big_quiet_step (exact quiet_same (KD.out _))
          refine wpQuiet_nil ?_
          intro _ hw'
          obtain ⟨nr, hw''⟩ := hw'
          subst hw''
          clear y0 y1
          have e20 : (W3.drewN nr).cell? ⟨B + 1 + 1, 0, none⟩ = some (.int .i64 r.l) := B20.out.cell 0
          have z20 : (W3.drewN nr).frozen? ⟨B + 1 + 1, 0, none⟩ = false := B20.out.frozen 0
          have x19 : Blk ((W3.drewN nr).setCell ⟨B + 1 + 1, 0, none⟩ (.int .i64 (r.l + d))) (B + 1) 36 #[.int .i64 r.l, .int .i64 e, .int .i64 r.lo, .int .i64 r.hi] := (B19.out.drewN nr).far (show B + 1 ≠ B + 1 + 1 by omega) _
          have x20 : Blk ((W3.drewN nr).setCell ⟨B + 1 + 1, 0, none⟩ (.int .i64 (r.l + d))) (B + 1 + 1) 36 #[.int .i64 (r.l + d), .int .i64 r.r, .int .i64 r.lo, .int .i64 r.hi] := (B20.out.drewN nr).set_ 0 _
          have bwx : Below B wA ((W3.drewN nr).setCell ⟨B + 1 + 1, 0, none⟩ (.int .i64 (r.l + d))) := (below_drewN BW3.out nr).setCell (show B ≤ B + 1 + 1 by omega) _
          have oX : World.ownsRow ((W3.drewN nr).setCell ⟨B + 1 + 1, 0, none⟩ (.int .i64 (r.l + d))) w6.heap.size 36 4 (.slice (some ⟨g1, 0, none⟩) n1 cap1) n1 (cellsR m1) := by
            have h1 := HO1.out
            rw [HL1.out] at h1
            exact h1.kept (gb_below (by rw [← HEB.out]; exact bwx) none) (by simp [Value.ownBlock])
          have x0 : ((W3.drewN nr).setCell ⟨B + 1 + 1, 0, none⟩ (.int .i64 (r.l + d))).cell? ⟨B + 1, 0, none⟩ = some (.int .i64 r.l) := x19.cell 0
          have x1 : ((W3.drewN nr).setCell ⟨B + 1 + 1, 0, none⟩ (.int .i64 (r.l + d))).cell? ⟨B + 1, 1, none⟩ = some (.int .i64 e) := x19.cell 1
          have x2 : ((W3.drewN nr).setCell ⟨B + 1 + 1, 0, none⟩ (.int .i64 (r.l + d))).cell? ⟨B + 1, 2, none⟩ = some (.int .i64 r.lo) := x19.cell 2
          have x3 : ((W3.drewN nr).setCell ⟨B + 1 + 1, 0, none⟩ (.int .i64 (r.l + d))).cell? ⟨B + 1, 3, none⟩ = some (.int .i64 r.hi) := x19.cell 3
          have thx : World.there ((W3.drewN nr).setCell ⟨B + 1 + 1, 0, none⟩ (.int .i64 (r.l + d))) g1 (k * 4) 4 := own_there oX HL1.out.symm (by rw [HL1.out]; exact hkn)
          have THX := Lib.hid thx; have OX1 := Lib.hid oX; have X20 := Lib.hid x20; have BWX := Lib.hid bwx
          clear thx oX x19 x20 bwx
          go_wp2_with (first | (refine wpList_store_mid rfl 36 (.tmp 161) (.tmp 160) rfl g1 (k * 4) #[.int .i64 r.l, .int .i64 e, .int .i64 r.lo, .int .i64 r.hi] rfl rfl THX.out rect_sz (by simp [Value.oneCell']) ?_; generalize hW5 : World.setCells _ _ _ _ = W5; have o5 : W5.ownsRow w6.heap.size 36 4 (.slice (some ⟨g1, 0, none⟩) n1 cap1) n1 (cellsR (m1.set k ⟨r.l, e, r.lo, r.hi⟩)) := (by rw [← hW5]; exact own_set OX1.out HL1.out.symm (by rw [HL1.out]; exact hkn) ⟨r.l, e, r.lo, r.hi⟩); have q20 : Blk W5 (B + 1 + 1) 36 #[.int .i64 (r.l + d), .int .i64 r.r, .int .i64 r.lo, .int .i64 r.hi] := (by rw [← hW5]; exact blk_setCells4 X20.out (show B + 1 + 1 ≠ g1 by omega) _ _ _ _ _); have bw5 : Below w6.heap.size w6 W5 := (by rw [← hW5]; exact below_setCells4 (HBA.out.trans ((BWX.out).mono (by rw [HEB.out]; exact HO1L.out))) HGB.out _ _ _ _ _); have v0 := q20.cell 0; have v1 := q20.cell 1; have v2 := q20.cell 2; have v3 := q20.cell 3; simp only [List.getElem?_toArray, List.getElem?_cons_zero, List.getElem?_cons_succ] at v0 v1 v2 v3; have O5 := Lib.hid o5; have BW5 := Lib.hid bw5; clear o5 q20 bw5 hW5 x0 x1 x2 x3 e20 z20) | (refine wpList_append_rect rfl (.tmp 162) (.tmp 164) rfl w6.heap.size (.slice (some ⟨g1, 0, none⟩) n1 cap1) (m1.set k ⟨r.l, e, r.lo, r.hi⟩) ⟨r.l + d, r.r, r.lo, r.hi⟩ W5.heap.size _ rfl rfl (by rw [List.length_set, HL1.out]; exact O5.out.alloc _) (Blk.new _ _ _) (by rw [List.length_set, HL1.out]; omega) (Nat.le_trans BW5.out.size (by simp)) ?_; intro v6 W6 ho6 hg6; have bw6 : Below w6.heap.size w6 W6 := own_below (BW5.out.alloc BW5.out.size _) (O5.out.alloc _) (Nat.le_trans BW5.out.size (by simp)) hg6; have O6 := Lib.hid ho6; have BW6 := Lib.hid bw6; clear ho6 bw6 hg6 v0 v1 v2 v3))
          have hcut := cut_x HRO.out (c := c) (d := d) HHC.out.1 HHC.out.2 hd.1 (by have h1 := HCX.out; have h2 := hd.2; omega)
          rw [show r.l + 1 + c = e by rw [HE.out]] at hcut
          have hmix := FF.out.cut j k ⟨r.l, e, r.lo, r.hi⟩ ⟨r.l + d, r.r, r.lo, r.hi⟩ (by rw [← HN.out]; exact hjn) (by rw [← HR0.out, ← HM1.out, HL1.out]; exact hkn) hcut.1 hcut.2.1 (by rw [← HR0.out, ← HM1.out, ← HRR.out]; exact hcut.2.2)
          have hml : mixL l j k ⟨r.l, e, r.lo, r.hi⟩ ⟨r.l + d, r.r, r.lo, r.hi⟩ = m1.set k ⟨r.l, e, r.lo, r.hi⟩ ++ [⟨r.l + d, r.r, r.lo, r.hi⟩] := by unfold mixL; rw [← HR0.out, ← HM1.out]
          rw [hml] at hmix
          have hS := HS.out.step BW6.out (Sl.of_own (id O6.out))
          clear HS; have HS := Lib.hid hS; clear hS hcut hml
          refine (of_st HS.out 0 rfl hmix.1 hmix.2).mono ?_
          rintro e w21 ⟨v21, rfl, hS⟩
          clear HS; have HS := Lib.hid hS; clear hS
          go_wp2_with (fail)
          refine (minus_st HS.out 3 0 rfl rfl FF.out.em FF.out.lm).mono ?_
          rintro e w22 ⟨v22, rfl, hS⟩
          clear HS; have HS := Lib.hid hS; clear hS
          obtain ⟨Ad, cd, hvd, _, _, _⟩ := (HS.out.get 0 rfl).form
          rw [show ([] : List Rct).length = 0 from rfl] at hvd
          subst hvd
          go_wp2_with (fail)
          refine (same_st HS.out 4 1 rfl rfl FF.out.s).mono ?_
          rintro e w23 ⟨rfl, hS⟩
          clear HS; have HS := Lib.hid hS; clear hS
          go_wp2_with (fail)
          go_ret
          exact ⟨rfl, HS.out.bel⟩
        · have hrange : 0 < r.hi - r.lo := by omega
          have hc := pickI_range (c := cut.tdiv 2) (n := r.hi - r.lo) (by omega)
          obtain ⟨c, hcc⟩ : ∃ c, c = pickI (cut.tdiv 2) (r.hi - r.lo) := ⟨_, rfl⟩
          have kc : ∀ W0 : World, Calls Tryd.prog 11 #[.int .i64 (cut.tdiv 2), .int .i64 (r.hi - r.lo)] W0 fun e w' => e = .returned (.int .i64 c) ∧ W0 = w' := fun W0 => by rw [hcc]; exact pickA_any _ _ HC2.out (by omega) (by omega) W0
          rw [← hcc] at hc
          have KC := Lib.hid kc; clear kc hcc
          go_wp2_with (fail)
          refine region_quiet_tail_lit 11 (by kernel_rfl) (by kernel_rfl) ?_
          simp only [List.take_succ_cons, List.take_zero, List.drop_succ_cons, List.drop_zero]
          iterate 10 (go_big_quiet_step (fail))
          go_big_quiet_step (exact quiet_same (KC.out _))
          refine wpQuiet_nil ?_
          intro _ hw'
          obtain ⟨nq, hw''⟩ := hw'
          subst hw''
          have e19 : (W2.drewN nq).cell? ⟨B + 1, 3, none⟩ = some (.int .i64 r.hi) := hB19.out.cell 3
          have z19 : (W2.drewN nq).frozen? ⟨B + 1, 3, none⟩ = false := hB19.out.frozen 3
          go_wp2_with (fail)
          obtain ⟨e, he⟩ : ∃ e, e = r.lo + 1 + c := ⟨_, rfl⟩
          rw [← he]
          have he1 : r.lo < e := by omega
          have he2 : e ≤ r.hi := by omega
          generalize hW3 : World.setCell _ _ _ = W3
          have b19 : Blk W3 (B + 1) 36 #[.int .i64 r.l, .int .i64 r.r, .int .i64 r.lo, .int .i64 e] := by rw [← hW3]; exact (hB19.out.drewN nq).set_ 3 _
          have b18 : Blk W3 B 36 #[.int .i64 r.l, .int .i64 r.r, .int .i64 r.lo, .int .i64 r.hi] := by rw [← hW3]; exact (hB18.out.drewN nq).far (show B ≠ B + 1 by omega) _
          have b20 : Blk W3 (B + 1 + 1) 36 #[.int .i64 r.l, .int .i64 r.r, .int .i64 r.lo, .int .i64 r.hi] := by rw [← hW3]; exact (hB20.out.drewN nq).far (show B + 1 + 1 ≠ B + 1 by omega) _
          have bw3 : Below B wA W3 := by rw [← hW3]; exact (below_drewN HBW.out nq).setCell (show B ≤ B + 1 by omega) _
          have y0 : W3.cell? ⟨B, 2, none⟩ = some (.int .i64 r.lo) := b18.cell 2
          have y1 : W3.cell? ⟨B + 1, 3, none⟩ = some (.int .i64 e) := b19.cell 3
          have hd := pickI_range (c := cut.tdiv 4) (n := e - r.lo) (by omega)
          obtain ⟨d, hdd⟩ : ∃ d, d = pickI (cut.tdiv 4) (e - r.lo) := ⟨_, rfl⟩
          have kd : ∀ W0 : World, Calls Tryd.prog 11 #[.int .i64 (cut.tdiv 4), .int .i64 (e - r.lo)] W0 fun e w' => e = .returned (.int .i64 d) ∧ W0 = w' := fun W0 => by rw [hdd]; exact pickA_any _ _ HC4.out (by omega) (by omega) W0
          rw [← hdd] at hd
          have hcx : c = e - r.lo - 1 := by omega
          have HCX := Lib.hid hcx; have HHC := Lib.hid hc
          have KD := Lib.hid kd; have B19 := Lib.hid b19; have B20 := Lib.hid b20; have BW3 := Lib.hid bw3; have HE := Lib.hid he
          clear kd hdd b18 b19 b20 bw3 hW3 e19 z19 c0 c1 c2 c3 hcx hc he hrange
          refine region_quiet_tail_lit 10 (by kernel_rfl) (by kernel_rfl) ?_
          simp only [List.take_succ_cons, List.take_zero, List.drop_succ_cons, List.drop_zero]
          iterate 9 (go_big_quiet_step (fail))
          go_big_quiet_step (exact quiet_same (KD.out _))
          refine wpQuiet_nil ?_
          intro _ hw'
          obtain ⟨nr, hw''⟩ := hw'
          subst hw''
          clear y0 y1
          have e20 : (W3.drewN nr).cell? ⟨B + 1 + 1, 2, none⟩ = some (.int .i64 r.lo) := B20.out.cell 2
          have z20 : (W3.drewN nr).frozen? ⟨B + 1 + 1, 2, none⟩ = false := B20.out.frozen 2
          have x19 : Blk ((W3.drewN nr).setCell ⟨B + 1 + 1, 2, none⟩ (.int .i64 (r.lo + d))) (B + 1) 36 #[.int .i64 r.l, .int .i64 r.r, .int .i64 r.lo, .int .i64 e] := (B19.out.drewN nr).far (show B + 1 ≠ B + 1 + 1 by omega) _
          have x20 : Blk ((W3.drewN nr).setCell ⟨B + 1 + 1, 2, none⟩ (.int .i64 (r.lo + d))) (B + 1 + 1) 36 #[.int .i64 r.l, .int .i64 r.r, .int .i64 (r.lo + d), .int .i64 r.hi] := (B20.out.drewN nr).set_ 2 _
          have bwx : Below B wA ((W3.drewN nr).setCell ⟨B + 1 + 1, 2, none⟩ (.int .i64 (r.lo + d))) := (below_drewN BW3.out nr).setCell (show B ≤ B + 1 + 1 by omega) _
          have oX : World.ownsRow ((W3.drewN nr).setCell ⟨B + 1 + 1, 2, none⟩ (.int .i64 (r.lo + d))) w6.heap.size 36 4 (.slice (some ⟨g1, 0, none⟩) n1 cap1) n1 (cellsR m1) := by
            have h1 := HO1.out
            rw [HL1.out] at h1
            exact h1.kept (gb_below (by rw [← HEB.out]; exact bwx) none) (by simp [Value.ownBlock])
          have x0 : ((W3.drewN nr).setCell ⟨B + 1 + 1, 2, none⟩ (.int .i64 (r.lo + d))).cell? ⟨B + 1, 0, none⟩ = some (.int .i64 r.l) := x19.cell 0
          have x1 : ((W3.drewN nr).setCell ⟨B + 1 + 1, 2, none⟩ (.int .i64 (r.lo + d))).cell? ⟨B + 1, 1, none⟩ = some (.int .i64 r.r) := x19.cell 1
          have x2 : ((W3.drewN nr).setCell ⟨B + 1 + 1, 2, none⟩ (.int .i64 (r.lo + d))).cell? ⟨B + 1, 2, none⟩ = some (.int .i64 r.lo) := x19.cell 2
          have x3 : ((W3.drewN nr).setCell ⟨B + 1 + 1, 2, none⟩ (.int .i64 (r.lo + d))).cell? ⟨B + 1, 3, none⟩ = some (.int .i64 e) := x19.cell 3
          have thx : World.there ((W3.drewN nr).setCell ⟨B + 1 + 1, 2, none⟩ (.int .i64 (r.lo + d))) g1 (k * 4) 4 := own_there oX HL1.out.symm (by rw [HL1.out]; exact hkn)
          have THX := Lib.hid thx; have OX1 := Lib.hid oX; have X20 := Lib.hid x20; have BWX := Lib.hid bwx
          clear thx oX x19 x20 bwx
          go_wp2_with (first | (refine wpList_store_mid rfl 36 (.tmp 161) (.tmp 160) rfl g1 (k * 4) #[.int .i64 r.l, .int .i64 r.r, .int .i64 r.lo, .int .i64 e] rfl rfl THX.out rect_sz (by simp [Value.oneCell']) ?_; generalize hW5 : World.setCells _ _ _ _ = W5; have o5 : W5.ownsRow w6.heap.size 36 4 (.slice (some ⟨g1, 0, none⟩) n1 cap1) n1 (cellsR (m1.set k ⟨r.l, r.r, r.lo, e⟩)) := (by rw [← hW5]; exact own_set OX1.out HL1.out.symm (by rw [HL1.out]; exact hkn) ⟨r.l, r.r, r.lo, e⟩); have q20 : Blk W5 (B + 1 + 1) 36 #[.int .i64 r.l, .int .i64 r.r, .int .i64 (r.lo + d), .int .i64 r.hi] := (by rw [← hW5]; exact blk_setCells4 X20.out (show B + 1 + 1 ≠ g1 by omega) _ _ _ _ _); have bw5 : Below w6.heap.size w6 W5 := (by rw [← hW5]; exact below_setCells4 (HBA.out.trans ((BWX.out).mono (by rw [HEB.out]; exact HO1L.out))) HGB.out _ _ _ _ _); have v0 := q20.cell 0; have v1 := q20.cell 1; have v2 := q20.cell 2; have v3 := q20.cell 3; simp only [List.getElem?_toArray, List.getElem?_cons_zero, List.getElem?_cons_succ] at v0 v1 v2 v3; have O5 := Lib.hid o5; have BW5 := Lib.hid bw5; clear o5 q20 bw5 hW5 x0 x1 x2 x3 e20 z20) | (refine wpList_append_rect rfl (.tmp 162) (.tmp 164) rfl w6.heap.size (.slice (some ⟨g1, 0, none⟩) n1 cap1) (m1.set k ⟨r.l, r.r, r.lo, e⟩) ⟨r.l, r.r, r.lo + d, r.hi⟩ W5.heap.size _ rfl rfl (by rw [List.length_set, HL1.out]; exact O5.out.alloc _) (Blk.new _ _ _) (by rw [List.length_set, HL1.out]; omega) (Nat.le_trans BW5.out.size (by simp)) ?_; intro v6 W6 ho6 hg6; have bw6 : Below w6.heap.size w6 W6 := own_below (BW5.out.alloc BW5.out.size _) (O5.out.alloc _) (Nat.le_trans BW5.out.size (by simp)) hg6; have O6 := Lib.hid ho6; have BW6 := Lib.hid bw6; clear ho6 bw6 hg6 v0 v1 v2 v3))
          have hcut := cut_y HRO.out (c := c) (d := d) HHC.out.1 HHC.out.2 hd.1 (by have h1 := HCX.out; have h2 := hd.2; omega)
          rw [show r.lo + 1 + c = e by rw [HE.out]] at hcut
          have hmix := FF.out.cut j k ⟨r.l, r.r, r.lo, e⟩ ⟨r.l, r.r, r.lo + d, r.hi⟩ (by rw [← HN.out]; exact hjn) (by rw [← HR0.out, ← HM1.out, HL1.out]; exact hkn) hcut.1 hcut.2.1 (by rw [← HR0.out, ← HM1.out, ← HRR.out]; exact hcut.2.2)
          have hml : mixL l j k ⟨r.l, r.r, r.lo, e⟩ ⟨r.l, r.r, r.lo + d, r.hi⟩ = m1.set k ⟨r.l, r.r, r.lo, e⟩ ++ [⟨r.l, r.r, r.lo + d, r.hi⟩] := by unfold mixL; rw [← HR0.out, ← HM1.out]
          rw [hml] at hmix
          have hS := HS.out.step BW6.out (Sl.of_own (id O6.out))
          clear HS; have HS := Lib.hid hS; clear hS hcut hml
          refine (of_st HS.out 0 rfl hmix.1 hmix.2).mono ?_
          rintro e w21 ⟨v21, rfl, hS⟩
          clear HS; have HS := Lib.hid hS; clear hS
          go_wp2_with (fail)
          refine (minus_st HS.out 3 0 rfl rfl FF.out.em FF.out.lm).mono ?_
          rintro e w22 ⟨v22, rfl, hS⟩
          clear HS; have HS := Lib.hid hS; clear hS
          obtain ⟨Ad, cd, hvd, _, _, _⟩ := (HS.out.get 0 rfl).form
          rw [show ([] : List Rct).length = 0 from rfl] at hvd
          subst hvd
          go_wp2_with (fail)
          refine (same_st HS.out 4 1 rfl rfl FF.out.s).mono ?_
          rintro e w23 ⟨rfl, hS⟩
          clear HS; have HS := Lib.hid hS; clear hS
          go_wp2_with (fail)
          go_ret
          exact ⟨rfl, HS.out.bel⟩
      · obtain ⟨k', rfl⟩ : ∃ k', k = k' + 1 := ⟨k - 1, by omega⟩
        rw [show (((k' + 1 : Nat) : Int) - 1) = (k' : Int) by omega]
        obtain ⟨b, of', rfl, hbl, gg⟩ := HF.out k' (by omega)
        obtain ⟨p1, p2, p3, p4⟩ := gg k' (by omega)
        obtain ⟨q, hq⟩ : ∃ q, q = l.getD k' default := ⟨_, rfl⟩
        rw [← hq] at p1 p2 p3 p4
        rw [← hb.cell (p := ⟨b, _, none⟩) hbl] at p1 p2 p3 p4
        have i0 : (0 : Int) ≤ (k' : Int) := by omega
        have i1 : (k' : Int) < (n : Int) := by omega
        have hnx := drop_rev l k' (by rw [← HN.out]; omega)
        rw [← hq] at hnx
        have hdl : (l.drop (k' + 1)).reverse.length ≤ 6 := by rw [List.length_reverse, List.length_drop, ← HN.out]; omega
        have HNX := Lib.hid hnx; have HDL := Lib.hid hdl
        have HSZ := Lib.hid hb.size; have HB := Lib.hid hb
        clear gg hq hnx hdl hz hag hwh hcu hb
        go_wp2_with (refine wpList_append_rect rfl (.tmp 78) (.tmp 83) rfl w6.heap.size u15 (l.drop (k' + 1)).reverse q wr.heap.size _ rfl rfl (ho.out.alloc _) (Blk.new _ _ _) (Nat.le_trans HDL.out (by omega)) (Nat.le_trans HSZ.out (by simp)) ?_; intro v' w2 ho2 hg2; have hb2 : Below w6.heap.size w6 w2 := (own_below (HB.out.alloc HSZ.out _) (ho.out.alloc _) (Nat.le_trans HSZ.out (by simp)) hg2); have HO2 := Lib.hid ho2; have HB2 := Lib.hid hb2; clear ho2 hb2 hg2)
        go_roundw
        case rel => exact ⟨k', by omega, rfl, Lib.hid (by rw [HNX.out]; exact HO2.out), HB2.out⟩
        case measure => simp [intOf]
end Go.Proofs.YtplamgmmncenjaaDoorR
