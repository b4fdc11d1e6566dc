/- Walk of the law AreaWithin. -/
import Derived.Test.YtplamgmmncenjaaDoorRW18
import Derived.Test.YtplamgmmncenjaaDoorRP10
namespace Go.Proofs.YtplamgmmncenjaaDoorR
open Go.RowKit
theorem SlR.trim {w : World} {v : Value} {x : List Rct} (h : SlR w v x) (mi : Int) {m : Nat} (hm : mi = (m : Int)) : ∃ A n c k, v = .slice A n c ∧ n ≤ 9223372036854775807 ∧ n ≤ c ∧ k ≤ n ∧ k ≤ c ∧ k ≤ m ∧ min (n : Int) mi = (k : Int) ∧ SlR w (.slice A k c) (x.take m) := by
  obtain ⟨A, c, rfl, hl, hc, _⟩ := h.form
  refine ⟨A, x.length, c, min x.length m, rfl, by unfold maxLen at hc; omega, hl, by omega, by omega, by omega, by omega, ?_⟩
  have := SlR.take h (min x.length m) (by omega)
  have e : x.take (min x.length m) = x.take m := by
    rw [List.take_eq_take_iff]; omega
  rwa [e] at this
set_option maxRecDepth 100000 in
set_option maxHeartbeats 40000000 in
theorem awithin_any (x : List Rct) (y : List Rct) (z : List Rct) (vx : Value) (vy : Value) (vz : Value) (w : World) (hx : SlR w vx x) (ox : xok x) (hy : SlR w vy y) (oy : xok y) (hz : SlR w vz z) (oz : xok z) (hT : HasTab w) :
    Calls Tryd.prog 8 #[vx, vy, vz] w fun e w' => e = .returned (.bool true) ∧ Below w.heap.size w w' := by
  obtain ⟨A0, n0, c0, k0, rfl, hn0, hnc0, hkn0, hkc0, hkm0, hmin0, hs0⟩ := hx.trim 2 (m := 2) rfl
  obtain ⟨A1, n1, c1, k1, rfl, hn1, hnc1, hkn1, hkc1, hkm1, hmin1, hs1⟩ := hy.trim 2 (m := 2) rfl
  obtain ⟨A2, n2, c2, k2, rfl, hn2, hnc2, hkn2, hkc2, hkm2, hmin2, hs2⟩ := hz.trim 2 (m := 2) rfl
  obtain ⟨m, u, i, s, t, is, ba, bc, ac, F⟩ := within_facts (x.take 2) (y.take 2) (z.take 2) (take_min_len _ _) (take_min_len _ _) (take_min_len _ _)
  obtain ⟨a, ha⟩ : ∃ l, l = madeL (x.take 2) := ⟨_, rfl⟩
  rw [← ha] at F
  have Ha := Lib.hid ha.symm; clear ha
  obtain ⟨b, hb⟩ : ∃ l, l = madeL (y.take 2) := ⟨_, rfl⟩
  rw [← hb] at F
  have Hb := Lib.hid hb.symm; clear hb
  obtain ⟨c, hc⟩ : ∃ l, l = madeL (z.take 2) := ⟨_, rfl⟩
  rw [← hc] at F
  have Hc := Lib.hid hc.symm; clear hc
  have FF := Lib.hid F; clear F
  have hS := St.start hT
  have hS := hS.step (Below.refl _ w) hs2
  have hS := hS.step (Below.refl _ w) hs1
  have hS := hS.step (Below.refl _ w) hs0
  have OXx := Lib.hid (xok_take ox 2)
  have OXy := Lib.hid (xok_take oy 2)
  have OXz := Lib.hid (xok_take oz 2)
  clear ox hx hs0 oy hy hs1 oz hz hs2
  have HS := Lib.hid hS
  clear hS hT
  cases is
  · have hm0 : 0 < m.length := List.length_pos_iff.2 (FF.out.w5 rfl)
    go_enter Tryd.func8, Tryd.ntmps8
    go_wp2_with (fail)
    refine (sane_st HS.out).mono ?_
    rintro e w1 ⟨rfl, hS⟩
    clear HS; have HS := Lib.hid hS; clear hS
    go_wp2_with (fail)
    refine (made_st HS.out 0 rfl OXx.out Ha.out).mono ?_
    rintro e w2 ⟨v2, rfl, hS⟩
    clear HS; have HS := Lib.hid hS; clear hS
    go_wp2_with (fail)
    refine (made_st HS.out 2 rfl OXy.out Hb.out).mono ?_
    rintro e w3 ⟨v3, rfl, hS⟩
    clear HS; have HS := Lib.hid hS; clear hS
    go_wp2_with (fail)
    refine (made_st HS.out 4 rfl OXz.out Hc.out).mono ?_
    rintro e w4 ⟨v4, rfl, hS⟩
    clear HS; have HS := Lib.hid hS; clear hS
    go_wp2_with (fail)
    refine (minus_st HS.out 2 1 rfl rfl FF.out.em FF.out.lm).mono ?_
    rintro e w5 ⟨v5, rfl, hS⟩
    clear HS; have HS := Lib.hid hS; clear hS
    obtain ⟨Am, cm, hvm, hlm, hmm, _⟩ := (HS.out.get 0 rfl).form
    subst hvm
    have hml : m.length ≤ 9223372036854775807 := by unfold maxLen at hmm; omega
    generalize m.length = nm at *
    go_wp2_with (fail)
    refine (both_st HS.out 3 2 rfl rfl FF.out.eo FF.out.ea FF.out.lo FF.out.la).mono ?_
    rintro e w6 ⟨v6, v6', rfl, hS⟩
    clear HS; have HS := Lib.hid hS; clear hS
    go_wp2_with (fail)
    refine (both_st HS.out 0 3 rfl rfl FF.out.fo FF.out.fa FF.out.ko FF.out.ka).mono ?_
    rintro e w7 ⟨v7, v7', rfl, hS⟩
    clear HS; have HS := Lib.hid hS; clear hS
    go_wp2_with (fail)
    refine (within_st HS.out 7 6 rfl rfl FF.out.w1).mono ?_
    rintro e w8 ⟨rfl, hS⟩
    clear HS; have HS := Lib.hid hS; clear hS
    go_wp2_with (fail)
    refine (same_st HS.out 2 6 rfl rfl FF.out.w2).mono ?_
    rintro e w9 ⟨rfl, hS⟩
    clear HS; have HS := Lib.hid hS; clear hS
    go_wp2_with (fail)
    refine (same_st HS.out 3 7 rfl rfl FF.out.w3).mono ?_
    rintro e w10 ⟨rfl, hS⟩
    clear HS; have HS := Lib.hid hS; clear hS
    go_wp2_with (fail)
    refine (within_st HS.out 3 7 rfl rfl FF.out.v1).mono ?_
    rintro e w11 ⟨rfl, hS⟩
    clear HS; have HS := Lib.hid hS; clear hS
    go_wp2_with (fail)
    refine (within_st HS.out 3 6 rfl rfl FF.out.v2).mono ?_
    rintro e w12 ⟨rfl, hS⟩
    clear HS; have HS := Lib.hid hS; clear hS
    go_wp2_with (fail)
    refine (within_st HS.out 7 2 rfl rfl FF.out.v3).mono ?_
    rintro e w13 ⟨rfl, hS⟩
    clear HS; have HS := Lib.hid hS; clear hS
    go_wp2_with (fail)
    refine (within_st HS.out 2 0 rfl rfl FF.out.v4).mono ?_
    rintro e w14 ⟨rfl, hS⟩
    clear HS; have HS := Lib.hid hS; clear hS
    go_wp2_with (fail)
    refine (within_st HS.out 3 0 rfl rfl FF.out.v5).mono ?_
    rintro e w15 ⟨rfl, hS⟩
    clear HS; have HS := Lib.hid hS; clear hS
    go_wp2_with (fail)
    refine (whole_st HS.out).mono ?_
    rintro e w16 ⟨v16, rfl, hS⟩
    clear HS; have HS := Lib.hid hS; clear hS
    go_wp2_with (fail)
    refine (within_st HS.out 1 0 rfl rfl FF.out.v6).mono ?_
    rintro e w17 ⟨rfl, hS⟩
    clear HS; have HS := Lib.hid hS; clear hS
    go_wp2_with (fail)
    have hS := HS.out.nil
    clear HS; have HS := Lib.hid hS; clear hS
    refine (within_st HS.out 0 9 rfl rfl FF.out.v7).mono ?_
    rintro e w18 ⟨rfl, hS⟩
    clear HS; have HS := Lib.hid hS; clear hS
    go_wp2_with (fail)
    refine (same_st HS.out 9 8 rfl rfl FF.out.x2).mono ?_
    rintro e w19 ⟨rfl, hS⟩
    clear HS; have HS := Lib.hid hS; clear hS
    go_wp2_with (fail)
    go_ret
    exact ⟨rfl, HS.out.bel⟩
  · have hm0 : m.length = 0 := by rw [FF.out.w4 rfl]; rfl
    go_enter Tryd.func8, Tryd.ntmps8
    go_wp2_with (fail)
    refine (sane_st HS.out).mono ?_
    rintro e w1 ⟨rfl, hS⟩
    clear HS; have HS := Lib.hid hS; clear hS
    go_wp2_with (fail)
    refine (made_st HS.out 0 rfl OXx.out Ha.out).mono ?_
    rintro e w2 ⟨v2, rfl, hS⟩
    clear HS; have HS := Lib.hid hS; clear hS
    go_wp2_with (fail)
    refine (made_st HS.out 2 rfl OXy.out Hb.out).mono ?_
    rintro e w3 ⟨v3, rfl, hS⟩
    clear HS; have HS := Lib.hid hS; clear hS
    go_wp2_with (fail)
    refine (made_st HS.out 4 rfl OXz.out Hc.out).mono ?_
    rintro e w4 ⟨v4, rfl, hS⟩
    clear HS; have HS := Lib.hid hS; clear hS
    go_wp2_with (fail)
    refine (minus_st HS.out 2 1 rfl rfl FF.out.em FF.out.lm).mono ?_
    rintro e w5 ⟨v5, rfl, hS⟩
    clear HS; have HS := Lib.hid hS; clear hS
    obtain ⟨Am, cm, hvm, hlm, hmm, _⟩ := (HS.out.get 0 rfl).form
    subst hvm
    have hml : m.length ≤ 9223372036854775807 := by unfold maxLen at hmm; omega
    generalize m.length = nm at *
    subst hm0
    go_wp2_with (fail)
    refine (both_st HS.out 3 2 rfl rfl FF.out.eo FF.out.ea FF.out.lo FF.out.la).mono ?_
    rintro e w6 ⟨v6, v6', rfl, hS⟩
    clear HS; have HS := Lib.hid hS; clear hS
    go_wp2_with (fail)
    refine (both_st HS.out 0 3 rfl rfl FF.out.fo FF.out.fa FF.out.ko FF.out.ka).mono ?_
    rintro e w7 ⟨v7, v7', rfl, hS⟩
    clear HS; have HS := Lib.hid hS; clear hS
    go_wp2_with (fail)
    refine (within_st HS.out 7 6 rfl rfl FF.out.w1).mono ?_
    rintro e w8 ⟨rfl, hS⟩
    clear HS; have HS := Lib.hid hS; clear hS
    go_wp2_with (fail)
    refine (same_st HS.out 2 6 rfl rfl FF.out.w2).mono ?_
    rintro e w9 ⟨rfl, hS⟩
    clear HS; have HS := Lib.hid hS; clear hS
    go_wp2_with (fail)
    refine (same_st HS.out 3 7 rfl rfl FF.out.w3).mono ?_
    rintro e w10 ⟨rfl, hS⟩
    clear HS; have HS := Lib.hid hS; clear hS
    go_wp2_with (fail)
    refine (within_st HS.out 3 7 rfl rfl FF.out.v1).mono ?_
    rintro e w11 ⟨rfl, hS⟩
    clear HS; have HS := Lib.hid hS; clear hS
    go_wp2_with (fail)
    refine (within_st HS.out 3 6 rfl rfl FF.out.v2).mono ?_
    rintro e w12 ⟨rfl, hS⟩
    clear HS; have HS := Lib.hid hS; clear hS
    go_wp2_with (fail)
    refine (within_st HS.out 7 2 rfl rfl FF.out.v3).mono ?_
    rintro e w13 ⟨rfl, hS⟩
    clear HS; have HS := Lib.hid hS; clear hS
    go_wp2_with (fail)
    refine (within_st HS.out 2 0 rfl rfl FF.out.v4).mono ?_
    rintro e w14 ⟨rfl, hS⟩
    clear HS; have HS := Lib.hid hS; clear hS
    go_wp2_with (fail)
    refine (within_st HS.out 3 0 rfl rfl FF.out.v5).mono ?_
    rintro e w15 ⟨rfl, hS⟩
    clear HS; have HS := Lib.hid hS; clear hS
    go_wp2_with (fail)
    refine (whole_st HS.out).mono ?_
    rintro e w16 ⟨v16, rfl, hS⟩
    clear HS; have HS := Lib.hid hS; clear hS
    go_wp2_with (fail)
    refine (within_st HS.out 1 0 rfl rfl FF.out.v6).mono ?_
    rintro e w17 ⟨rfl, hS⟩
    clear HS; have HS := Lib.hid hS; clear hS
    go_wp2_with (fail)
    have hS := HS.out.nil
    clear HS; have HS := Lib.hid hS; clear hS
    refine (within_st HS.out 0 9 rfl rfl FF.out.v7).mono ?_
    rintro e w18 ⟨rfl, hS⟩
    clear HS; have HS := Lib.hid hS; clear hS
    go_wp2_with (fail)
    cases ba
    · refine (within_st HS.out 8 9 rfl rfl FF.out.x1).mono ?_
      rintro e w19 ⟨rfl, hS⟩
      clear HS; have HS := Lib.hid hS; clear hS
      go_wp2_with (fail)
      refine (same_st HS.out 9 8 rfl rfl FF.out.x2).mono ?_
      rintro e w20 ⟨rfl, hS⟩
      clear HS; have HS := Lib.hid hS; clear hS
      go_wp2_with (fail)
      cases bc
      · refine (within_st HS.out 8 7 rfl rfl FF.out.x3).mono ?_
        rintro e w21 ⟨rfl, hS⟩
        clear HS; have HS := Lib.hid hS; clear hS
        go_wp2_with (fail)
        go_ret
        exact ⟨rfl, HS.out.bel⟩
      · obtain rfl := FF.out.x5 rfl rfl
        refine (within_st HS.out 8 7 rfl rfl FF.out.x3).mono ?_
        rintro e w21 ⟨rfl, hS⟩
        clear HS; have HS := Lib.hid hS; clear hS
        go_wp2_with (fail)
        refine (within_st HS.out 9 7 rfl rfl FF.out.x4).mono ?_
        rintro e w22 ⟨rfl, hS⟩
        clear HS; have HS := Lib.hid hS; clear hS
        go_wp2_with (fail)
        go_ret
        exact ⟨rfl, HS.out.bel⟩
    · refine (within_st HS.out 8 9 rfl rfl FF.out.x1).mono ?_
      rintro e w19 ⟨rfl, hS⟩
      clear HS; have HS := Lib.hid hS; clear hS
      go_wp2_with (fail)
      refine (same_st HS.out 9 8 rfl rfl FF.out.x2).mono ?_
      rintro e w20 ⟨rfl, hS⟩
      clear HS; have HS := Lib.hid hS; clear hS
      go_wp2_with (fail)
      cases bc
      · refine (within_st HS.out 8 7 rfl rfl FF.out.x3).mono ?_
        rintro e w21 ⟨rfl, hS⟩
        clear HS; have HS := Lib.hid hS; clear hS
        go_wp2_with (fail)
        go_ret
        exact ⟨rfl, HS.out.bel⟩
      · obtain rfl := FF.out.x5 rfl rfl
        refine (within_st HS.out 8 7 rfl rfl FF.out.x3).mono ?_
        rintro e w21 ⟨rfl, hS⟩
        clear HS; have HS := Lib.hid hS; clear hS
        go_wp2_with (fail)
        refine (within_st HS.out 9 7 rfl rfl FF.out.x4).mono ?_
        rintro e w22 ⟨rfl, hS⟩
        clear HS; have HS := Lib.hid hS; clear hS
        go_wp2_with (fail)
        go_ret
        exact ⟨rfl, HS.out.bel⟩
end Go.Proofs.YtplamgmmncenjaaDoorR
