/- Walk of the law AreaGrows. -/
import Derived.Test.YtplamgmmncenjaaDoorRW19
namespace Go.Proofs.YtplamgmmncenjaaDoorR
open Go.RowKit
set_option maxRecDepth 100000 in
set_option maxHeartbeats 40000000 in
theorem agrows_any (x y : List Rct) (d m : Int) (vx vy : Value) (w : World) (hx : SlR w vx x) (ox : xok x) (hy : SlR w vy y) (oy : xok y) (hd : isInt d) (hm : isInt m) (hT : HasTab w) :
    Calls Tryd.prog 7 #[vx, vy, .int .i64 d, .int .i64 m] w fun e w' => e = .returned (.bool true) ∧ Below w.heap.size w w' := by
  obtain ⟨dd, hdd⟩ : ∃ i, i = pickI d 33 := ⟨_, rfl⟩
  obtain ⟨mm, hmm⟩ : ∃ i, i = pickI m 32 := ⟨_, rfl⟩
  have r1 := pickI_range (c := d) (n := 33) (by omega)
  have r2 := pickI_range (c := m) (n := 32) (by omega)
  rw [← hdd] at r1; rw [← hmm] at r2
  have Hdd := Lib.hid hdd; have Hmm := Lib.hid hmm; clear hdd hmm
  obtain ⟨A0, n0, c0, k0, rfl, hn0, hnc0, hkn0, hkc0, hkm0, hmin0, hs0⟩ := hx.trim 2 (m := 2) rfl
  obtain ⟨A1, n1, c1, k1, rfl, hn1, hnc1, hkn1, hkc1, hkm1, hmin1, hs1⟩ := hy.trim 2 (m := 2) rfl
  obtain ⟨one, two, all, none, whole, u, v, gw, zz, F⟩ := grows_facts (x.take 2) (y.take 2) (take_min_len _ _) (take_min_len _ _) dd mm r1.1 (by omega) r2.1 (by omega)
  obtain ⟨a, ha⟩ : ∃ l, l = madeL (x.take 2) := ⟨_, rfl⟩
  rw [← ha] at F
  have Ha := Lib.hid ha.symm; clear ha
  obtain ⟨b, hb⟩ : ∃ l, l = madeL (y.take 2) := ⟨_, rfl⟩
  rw [← hb] at F
  have Hb := Lib.hid hb.symm; clear hb
  have FF := Lib.hid F; clear F
  have hS := St.start hT
  have hS := hS.step (Below.refl _ w) hs1
  have hS := hS.step (Below.refl _ w) hs0
  have OXx := Lib.hid (xok_take ox 2)
  have OXy := Lib.hid (xok_take oy 2)
  clear ox hx hs0 oy hy hs1
  have HS := Lib.hid hS
  clear hS hT
  obtain ⟨na, hna⟩ : ∃ n, n = a.length := ⟨_, rfl⟩
  have HNA := Lib.hid hna.symm
  by_cases hz : na = 0
  · have ha0 : a = [] := List.eq_nil_of_length_eq_zero (by omega)
    have HA0 := Lib.hid ha0; clear ha0 hna
    have hcase := hz
    go_enter Tryd.func7, Tryd.ntmps7
    go_wp2_with (fail)
    refine (sane_st HS.out).mono ?_
    rintro e w1 ⟨rfl, hS⟩
    clear HS; have HS := Lib.hid hS; clear hS
    go_wp2_with (fail)
    refine (made_st HS.out 0 rfl OXx.out Ha.out).mono ?_
    rintro e w2 ⟨v2, rfl, hS⟩
    clear HS; have HS := Lib.hid hS; clear hS
    obtain ⟨Aa, ca, hva, hla, hma, _⟩ := (HS.out.get 0 rfl).form
    subst hva
    have hal : a.length ≤ 9223372036854775807 := by unfold maxLen at hma; omega
    have hna : a.length = na := HNA.out
    rw [hna] at HS hal hla ⊢
    clear hna
    subst hz
    go_wp2_with (fail)
    refine (made_st HS.out 2 rfl OXy.out Hb.out).mono ?_
    rintro e w3 ⟨v3, rfl, hS⟩
    clear HS; have HS := Lib.hid hS; clear hS
    go_wp2_with (fail)
    refine (pickA_any d 33 hd (by omega) (by omega) _).mono ?_
    rintro e w' ⟨rfl, rfl⟩
    rw [← Hdd.out]
    go_wp2_with (fail)
    refine (pickA_any m 32 hm (by omega) (by omega) _).mono ?_
    rintro e w' ⟨rfl, rfl⟩
    rw [← Hmm.out]
    go_wp2_with (fail)
    refine (grow_st HS.out 1 dd rfl FF.out.e1 FF.out.l1).mono ?_
    rintro e w4 ⟨v4, rfl, hS⟩
    clear HS; have HS := Lib.hid hS; clear hS
    go_wp2_with (fail)
    refine (grow_st HS.out 0 mm rfl FF.out.e2 FF.out.l2).mono ?_
    rintro e w5 ⟨v5, rfl, hS⟩
    clear HS; have HS := Lib.hid hS; clear hS
    go_wp2_with (fail)
    refine (grow_st HS.out 3 (dd + mm) rfl FF.out.e3 FF.out.l3).mono ?_
    rintro e w6 ⟨v6, rfl, hS⟩
    clear HS; have HS := Lib.hid hS; clear hS
    go_wp2_with (fail)
    refine (grow_st HS.out 4 0 rfl FF.out.e4 FF.out.l4).mono ?_
    rintro e w7 ⟨v7, rfl, hS⟩
    clear HS; have HS := Lib.hid hS; clear hS
    go_wp2_with (fail)
    refine (grow_st HS.out 5 63 rfl FF.out.e5 FF.out.l5).mono ?_
    rintro e w8 ⟨v8, rfl, hS⟩
    clear HS; have HS := Lib.hid hS; clear hS
    obtain ⟨Ah, ch, hvh, hlh, hmh, _⟩ := (HS.out.get 0 rfl).form
    subst hvh
    have hwl : whole.length ≤ 9223372036854775807 := by unfold maxLen at hmh; omega
    have hw0 : whole.length = 0 := by rw [FF.out.h2 HA0.out]; rfl
    rw [hw0] at HS hwl hlh ⊢
    clear hw0
    go_wp2_with (fail)
    refine (same_st HS.out 3 2 rfl rfl FF.out.g1).mono ?_
    rintro e w9 ⟨rfl, hS⟩
    clear HS; have HS := Lib.hid hS; clear hS
    go_wp2_with (fail)
    refine (same_st HS.out 1 6 rfl rfl FF.out.g2).mono ?_
    rintro e w10 ⟨rfl, hS⟩
    clear HS; have HS := Lib.hid hS; clear hS
    go_wp2_with (fail)
    refine (within_st HS.out 4 3 rfl rfl FF.out.w1).mono ?_
    rintro e w11 ⟨rfl, hS⟩
    clear HS; have HS := Lib.hid hS; clear hS
    go_wp2_with (fail)
    refine (within_st HS.out 6 4 rfl rfl FF.out.w2).mono ?_
    rintro e w12 ⟨rfl, hS⟩
    clear HS; have HS := Lib.hid hS; clear hS
    go_wp2_with (fail)
    refine (union_st HS.out 6 5 rfl rfl FF.out.e6 FF.out.l6).mono ?_
    rintro e w13 ⟨v13, rfl, hS⟩
    clear HS; have HS := Lib.hid hS; clear hS
    go_wp2_with (fail)
    refine (grow_st HS.out 0 dd rfl FF.out.e7 FF.out.l7).mono ?_
    rintro e w14 ⟨v14, rfl, hS⟩
    clear HS; have HS := Lib.hid hS; clear hS
    go_wp2_with (fail)
    refine (grow_st HS.out 7 dd rfl FF.out.e8 FF.out.l8).mono ?_
    rintro e w15 ⟨v15, rfl, hS⟩
    clear HS; have HS := Lib.hid hS; clear hS
    go_wp2_with (fail)
    refine (union_st HS.out 7 0 rfl rfl FF.out.e9 FF.out.l9).mono ?_
    rintro e w16 ⟨v16, rfl, hS⟩
    clear HS; have HS := Lib.hid hS; clear hS
    go_wp2_with (fail)
    refine (same_st HS.out 2 0 rfl rfl FF.out.g3).mono ?_
    rintro e w17 ⟨rfl, hS⟩
    clear HS; have HS := Lib.hid hS; clear hS
    go_wp2_with (fail)
    go_ret
    exact ⟨rfl, HS.out.bel⟩
  · have ha1 : a ≠ [] := fun e => hz (by rw [hna, e]; rfl)
    have HA1 := Lib.hid ha1; clear ha1 hna
    have hz1 : 0 < na := by omega
    have hcase := hz
    go_enter Tryd.func7, Tryd.ntmps7
    go_wp2_with (fail)
    refine (sane_st HS.out).mono ?_
    rintro e w1 ⟨rfl, hS⟩
    clear HS; have HS := Lib.hid hS; clear hS
    go_wp2_with (fail)
    refine (made_st HS.out 0 rfl OXx.out Ha.out).mono ?_
    rintro e w2 ⟨v2, rfl, hS⟩
    clear HS; have HS := Lib.hid hS; clear hS
    obtain ⟨Aa, ca, hva, hla, hma, _⟩ := (HS.out.get 0 rfl).form
    subst hva
    have hal : a.length ≤ 9223372036854775807 := by unfold maxLen at hma; omega
    have hna : a.length = na := HNA.out
    rw [hna] at HS hal hla ⊢
    clear hna
    go_wp2_with (fail)
    refine (made_st HS.out 2 rfl OXy.out Hb.out).mono ?_
    rintro e w3 ⟨v3, rfl, hS⟩
    clear HS; have HS := Lib.hid hS; clear hS
    go_wp2_with (fail)
    refine (pickA_any d 33 hd (by omega) (by omega) _).mono ?_
    rintro e w' ⟨rfl, rfl⟩
    rw [← Hdd.out]
    go_wp2_with (fail)
    refine (pickA_any m 32 hm (by omega) (by omega) _).mono ?_
    rintro e w' ⟨rfl, rfl⟩
    rw [← Hmm.out]
    go_wp2_with (fail)
    refine (grow_st HS.out 1 dd rfl FF.out.e1 FF.out.l1).mono ?_
    rintro e w4 ⟨v4, rfl, hS⟩
    clear HS; have HS := Lib.hid hS; clear hS
    go_wp2_with (fail)
    refine (grow_st HS.out 0 mm rfl FF.out.e2 FF.out.l2).mono ?_
    rintro e w5 ⟨v5, rfl, hS⟩
    clear HS; have HS := Lib.hid hS; clear hS
    go_wp2_with (fail)
    refine (grow_st HS.out 3 (dd + mm) rfl FF.out.e3 FF.out.l3).mono ?_
    rintro e w6 ⟨v6, rfl, hS⟩
    clear HS; have HS := Lib.hid hS; clear hS
    go_wp2_with (fail)
    refine (grow_st HS.out 4 0 rfl FF.out.e4 FF.out.l4).mono ?_
    rintro e w7 ⟨v7, rfl, hS⟩
    clear HS; have HS := Lib.hid hS; clear hS
    go_wp2_with (fail)
    refine (grow_st HS.out 5 63 rfl FF.out.e5 FF.out.l5).mono ?_
    rintro e w8 ⟨v8, rfl, hS⟩
    clear HS; have HS := Lib.hid hS; clear hS
    obtain ⟨Ah, ch, hvh, hlh, hmh, _⟩ := (HS.out.get 0 rfl).form
    subst hvh
    have hwl : whole.length ≤ 9223372036854775807 := by unfold maxLen at hmh; omega
    go_wp2_with (fail)
    refine (same_st HS.out 3 2 rfl rfl FF.out.g1).mono ?_
    rintro e w9 ⟨rfl, hS⟩
    clear HS; have HS := Lib.hid hS; clear hS
    go_wp2_with (fail)
    refine (same_st HS.out 1 6 rfl rfl FF.out.g2).mono ?_
    rintro e w10 ⟨rfl, hS⟩
    clear HS; have HS := Lib.hid hS; clear hS
    go_wp2_with (fail)
    refine (within_st HS.out 4 3 rfl rfl FF.out.w1).mono ?_
    rintro e w11 ⟨rfl, hS⟩
    clear HS; have HS := Lib.hid hS; clear hS
    go_wp2_with (fail)
    refine (within_st HS.out 6 4 rfl rfl FF.out.w2).mono ?_
    rintro e w12 ⟨rfl, hS⟩
    clear HS; have HS := Lib.hid hS; clear hS
    go_wp2_with (fail)
    refine (whole_st HS.out).mono ?_
    rintro e w13 ⟨v13, rfl, hS⟩
    clear HS; have HS := Lib.hid hS; clear hS
    go_wp2_with (fail)
    refine (same_st HS.out 1 0 rfl rfl (FF.out.h1 HA1.out)).mono ?_
    rintro e w14 ⟨rfl, hS⟩
    clear HS; have HS := Lib.hid hS; clear hS
    go_wp2_with (fail)
    refine (union_st HS.out 7 6 rfl rfl FF.out.e6 FF.out.l6).mono ?_
    rintro e w15 ⟨v15, rfl, hS⟩
    clear HS; have HS := Lib.hid hS; clear hS
    go_wp2_with (fail)
    refine (grow_st HS.out 0 dd rfl FF.out.e7 FF.out.l7).mono ?_
    rintro e w16 ⟨v16, rfl, hS⟩
    clear HS; have HS := Lib.hid hS; clear hS
    go_wp2_with (fail)
    refine (grow_st HS.out 8 dd rfl FF.out.e8 FF.out.l8).mono ?_
    rintro e w17 ⟨v17, rfl, hS⟩
    clear HS; have HS := Lib.hid hS; clear hS
    go_wp2_with (fail)
    refine (union_st HS.out 8 0 rfl rfl FF.out.e9 FF.out.l9).mono ?_
    rintro e w18 ⟨v18, rfl, hS⟩
    clear HS; have HS := Lib.hid hS; clear hS
    go_wp2_with (fail)
    refine (same_st HS.out 2 0 rfl rfl FF.out.g3).mono ?_
    rintro e w19 ⟨rfl, hS⟩
    clear HS; have HS := Lib.hid hS; clear hS
    go_wp2_with (fail)
    go_ret
    exact ⟨rfl, HS.out.bel⟩
end Go.Proofs.YtplamgmmncenjaaDoorR
