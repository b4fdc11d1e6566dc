/- Walk of the law AreaSets. -/
import Derived.Test.YtplamgmmncenjaaDoorRW19
import Derived.Deep.Cut
namespace Go.Proofs.YtplamgmmncenjaaDoorR
open Go.RowKit
theorem wp_callee {P : Program} {o : Oper} {a : Act} {w : World} {K : Act → World → Prop} {Q : Exit → Act → World → Prop} {f : FuncId} {args : Array Value} (hv : (execOp a.eval o).run P w = .ok (.enter f args) w)
    (h : Calls P f args w fun e w' => ∃ v, e = .returned v ∧ K (a.put o.dst v) w') : o.wp P a w K Q := by
  unfold Oper.wp
  rw [hv]
  simp only [Oper.upon]
  exact h.mono fun e w' hh => by obtain ⟨v, rfl, hk⟩ := hh; exact hk
set_option maxRecDepth 100000 in
set_option maxHeartbeats 40000000 in
theorem asets_any (x : List Rct) (y : List Rct) (z : List Rct) (vx : Value) (vy : Value) (vz : Value) (w : World) (hx : SlR w vx x) (ox : xok x) (hy : SlR w vy y) (oy : xok y) (hz : SlR w vz z) (oz : xok z) (hT : HasTab w) :
    Calls Tryd.prog 6 #[vx, vy, vz] w fun e w' => e = .returned (.bool true) ∧ Below w.heap.size w w' := by
  obtain ⟨A0, n0, c0, k0, rfl, hn0, hnc0, hkn0, hkc0, hkm0, hmin0, hs0⟩ := hx.trim 2 (m := 2) rfl
  obtain ⟨A1, n1, c1, k1, rfl, hn1, hnc1, hkn1, hkc1, hkm1, hmin1, hs1⟩ := hy.trim 2 (m := 2) rfl
  obtain ⟨A2, n2, c2, k2, rfl, hn2, hnc2, hkn2, hkc2, hkm2, hmin2, hs2⟩ := hz.trim 2 (m := 2) rfl
  obtain ⟨ab, inAB, ba, inBA, bc, inBC, ac, inAC, s1, t1, s2, t2, s3, t3, s4, t4, s6, t6, s7, t7, s8, t8, out, back, one, two, btw, F⟩ := sets_facts (x.take 2) (y.take 2) (z.take 2) (take_min_len _ _) (take_min_len _ _) (take_min_len _ _)
  obtain ⟨a, ha⟩ : ∃ l, l = madeL (x.take 2) := ⟨_, rfl⟩
  rw [← ha] at F
  have Ha := Lib.hid ha.symm; clear ha
  obtain ⟨b, hb⟩ : ∃ l, l = madeL (y.take 2) := ⟨_, rfl⟩
  rw [← hb] at F
  have Hb := Lib.hid hb.symm; clear hb
  obtain ⟨c, hc⟩ : ∃ l, l = madeL (z.take 2) := ⟨_, rfl⟩
  rw [← hc] at F
  have Hc := Lib.hid hc.symm; clear hc
  have FF := Lib.hid F; clear F
  have hS := St.start hT
  have hS := hS.step (Below.refl _ w) hs2
  have hS := hS.step (Below.refl _ w) hs1
  have hS := hS.step (Below.refl _ w) hs0
  have OXx := Lib.hid (xok_take ox 2)
  have OXy := Lib.hid (xok_take oy 2)
  have OXz := Lib.hid (xok_take oz 2)
  clear ox hx hs0 oy hy hs1 oz hz hs2
  have HS := Lib.hid hS
  clear hS hT
  go_enter Tryd.func6, Tryd.ntmps6
  go_wp2_with (fail)
  refine (sane_st HS.out).mono ?_
  rintro e w1 ⟨rfl, hS⟩
  clear HS; have HS := Lib.hid hS; clear hS
  go_wp2_with (fail)
  refine (made_st HS.out 0 rfl OXx.out Ha.out).mono ?_
  rintro e w2 ⟨v2, rfl, hS⟩
  clear HS; have HS := Lib.hid hS; clear hS
  go_wp2_with (fail)
  refine (made_st HS.out 2 rfl OXy.out Hb.out).mono ?_
  rintro e w3 ⟨v3, rfl, hS⟩
  clear HS; have HS := Lib.hid hS; clear hS
  go_wp2_with (fail)
  refine (made_st HS.out 4 rfl OXz.out Hc.out).mono ?_
  rintro e w4 ⟨v4, rfl, hS⟩
  clear HS; have HS := Lib.hid hS; clear hS
  go_wp2_with (fail)
  refine (both_st HS.out 2 1 rfl rfl FF.out.e1 FF.out.f1 FF.out.l1 FF.out.m1).mono ?_
  rintro e w5 ⟨v5, v5', rfl, hS⟩
  clear HS; have HS := Lib.hid hS; clear hS
  go_wp2_with (fail)
  refine (both_st HS.out 3 4 rfl rfl FF.out.e2 FF.out.f2 FF.out.l2 FF.out.m2).mono ?_
  rintro e w6 ⟨v6, v6', rfl, hS⟩
  clear HS; have HS := Lib.hid hS; clear hS
  go_wp2_with (fail)
  refine (both_st HS.out 5 4 rfl rfl FF.out.e3 FF.out.f3 FF.out.l3 FF.out.m3).mono ?_
  rintro e w7 ⟨v7, v7', rfl, hS⟩
  clear HS; have HS := Lib.hid hS; clear hS
  go_wp2_with (fail)
  refine (both_st HS.out 8 6 rfl rfl FF.out.e4 FF.out.f4 FF.out.l4 FF.out.m4).mono ?_
  rintro e w8 ⟨v8, v8', rfl, hS⟩
  clear HS; have HS := Lib.hid hS; clear hS
  go_upto_region 11 with (fail)
  refine wp_region_lit ?_
  repeat (refine BigFrame.wpList_want (by rfl) (fun K hK => ?_); (first | go_big_move | go_big_op); refine hK _ _ ?_; clear hK K)
  refine BigFrame.wpList_want (by rfl) (fun K hK => ?_)
  refine wp_callee (f := 22) (args := #[v5, v6]) (by go_simp) ?_
  refine (same_st HS.out 6 4 rfl rfl FF.out.g1).mono ?_
  rintro e w9 ⟨rfl, hS⟩
  clear HS; have HS := Lib.hid hS; clear hS
  refine ⟨_, rfl, hK _ _ ?_⟩
  clear hK K
  simp only [Act.put, List.setIfInBounds_toArray, List.set_cons_succ, List.set_cons_zero]
  repeat (refine BigFrame.wpList_want (by rfl) (fun K hK => ?_); (first | go_big_move | go_big_op); refine hK _ _ ?_; clear hK K)
  refine BigFrame.wpList_want (by rfl) (fun K hK => ?_)
  refine wp_callee (f := 22) (args := #[v5', v6']) (by go_simp) ?_
  refine (same_st HS.out 7 5 rfl rfl FF.out.g2).mono ?_
  rintro e w10 ⟨rfl, hS⟩
  clear HS; have HS := Lib.hid hS; clear hS
  refine ⟨_, rfl, hK _ _ ?_⟩
  clear hK K
  simp only [Act.put, List.setIfInBounds_toArray, List.set_cons_succ, List.set_cons_zero]
  repeat (refine BigFrame.wpList_want (by rfl) (fun K hK => ?_); (first | go_big_move | go_big_op); refine hK _ _ ?_; clear hK K)
  refine wpList_nil ?_
  go_wp2_with (fail)
  refine (both_st HS.out 6 8 rfl rfl FF.out.e5 FF.out.f5 FF.out.l5 FF.out.m5).mono ?_
  rintro e w11 ⟨v11, v11', rfl, hS⟩
  clear HS; have HS := Lib.hid hS; clear hS
  go_wp2_with (fail)
  refine (both_st HS.out 12 4 rfl rfl FF.out.e6 FF.out.f6 FF.out.l6 FF.out.m6).mono ?_
  rintro e w12 ⟨v12, v12', rfl, hS⟩
  clear HS; have HS := Lib.hid hS; clear hS
  go_wp2_with (fail)
  refine (both_st HS.out 11 12 rfl rfl FF.out.e7 FF.out.f7 FF.out.l7 FF.out.m7).mono ?_
  rintro e w13 ⟨v13, v13', rfl, hS⟩
  clear HS; have HS := Lib.hid hS; clear hS
  go_wp2_with (fail)
  refine (both_st HS.out 16 9 rfl rfl FF.out.e8 FF.out.f8 FF.out.l8 FF.out.m8).mono ?_
  rintro e w14 ⟨v14, v14', rfl, hS⟩
  clear HS; have HS := Lib.hid hS; clear hS
  go_wp2_with (fail)
  refine (both_st HS.out 18 10 rfl rfl FF.out.e6 FF.out.f6 FF.out.l6 FF.out.m6).mono ?_
  rintro e w15 ⟨v15, v15', rfl, hS⟩
  clear HS; have HS := Lib.hid hS; clear hS
  go_wp2_with (fail)
  refine (both_st HS.out 17 11 rfl rfl FF.out.e9 FF.out.f9 FF.out.l9 FF.out.m9).mono ?_
  rintro e w16 ⟨v16, v16', rfl, hS⟩
  clear HS; have HS := Lib.hid hS; clear hS
  go_wp2_with (fail)
  refine (both_st HS.out 18 12 rfl rfl FF.out.e10 FF.out.f10 FF.out.l10 FF.out.m10).mono ?_
  rintro e w17 ⟨v17, v17', rfl, hS⟩
  clear HS; have HS := Lib.hid hS; clear hS
  go_wp2_with (fail)
  refine (both_st HS.out 24 24 rfl rfl FF.out.e11 FF.out.f11 FF.out.l11 FF.out.m11).mono ?_
  rintro e w18 ⟨v18, v18', rfl, hS⟩
  clear HS; have HS := Lib.hid hS; clear hS
  go_upto_region 21 with (fail)
  refine wp_region_lit ?_
  repeat (refine BigFrame.wpList_want (by rfl) (fun K hK => ?_); (first | go_big_move | go_big_op); refine hK _ _ ?_; clear hK K)
  refine BigFrame.wpList_want (by rfl) (fun K hK => ?_)
  refine wp_callee (f := 22) (args := #[v11, v12]) (by go_simp) ?_
  refine (same_st HS.out 14 12 rfl rfl FF.out.h1).mono ?_
  rintro e w19 ⟨rfl, hS⟩
  clear HS; have HS := Lib.hid hS; clear hS
  refine ⟨_, rfl, hK _ _ ?_⟩
  clear hK K
  simp only [Act.put, List.setIfInBounds_toArray, List.set_cons_succ, List.set_cons_zero]
  repeat (refine BigFrame.wpList_want (by rfl) (fun K hK => ?_); (first | go_big_move | go_big_op); refine hK _ _ ?_; clear hK K)
  refine BigFrame.wpList_want (by rfl) (fun K hK => ?_)
  refine wp_callee (f := 22) (args := #[v13', v14']) (by go_simp) ?_
  refine (same_st HS.out 11 9 rfl rfl FF.out.h2).mono ?_
  rintro e w20 ⟨rfl, hS⟩
  clear HS; have HS := Lib.hid hS; clear hS
  refine ⟨_, rfl, hK _ _ ?_⟩
  clear hK K
  simp only [Act.put, List.setIfInBounds_toArray, List.set_cons_succ, List.set_cons_zero]
  repeat (refine BigFrame.wpList_want (by rfl) (fun K hK => ?_); (first | go_big_move | go_big_op); refine hK _ _ ?_; clear hK K)
  refine BigFrame.wpList_want (by rfl) (fun K hK => ?_)
  refine wp_callee (f := 22) (args := #[v15', v16]) (by go_simp) ?_
  refine (same_st HS.out 7 4 rfl rfl FF.out.h3).mono ?_
  rintro e w21 ⟨rfl, hS⟩
  clear HS; have HS := Lib.hid hS; clear hS
  refine ⟨_, rfl, hK _ _ ?_⟩
  clear hK K
  simp only [Act.put, List.setIfInBounds_toArray, List.set_cons_succ, List.set_cons_zero]
  repeat (refine BigFrame.wpList_want (by rfl) (fun K hK => ?_); (first | go_big_move | go_big_op); refine hK _ _ ?_; clear hK K)
  refine BigFrame.wpList_want (by rfl) (fun K hK => ?_)
  refine wp_callee (f := 22) (args := #[v14, v17']) (by go_simp) ?_
  refine (same_st HS.out 8 3 rfl rfl FF.out.h4).mono ?_
  rintro e w22 ⟨rfl, hS⟩
  clear HS; have HS := Lib.hid hS; clear hS
  refine ⟨_, rfl, hK _ _ ?_⟩
  clear hK K
  simp only [Act.put, List.setIfInBounds_toArray, List.set_cons_succ, List.set_cons_zero]
  repeat (refine BigFrame.wpList_want (by rfl) (fun K hK => ?_); (first | go_big_move | go_big_op); refine hK _ _ ?_; clear hK K)
  refine BigFrame.wpList_want (by rfl) (fun K hK => ?_)
  refine wp_callee (f := 22) (args := #[v18, v2]) (by go_simp) ?_
  refine (same_st HS.out 0 26 rfl rfl FF.out.h5).mono ?_
  rintro e w23 ⟨rfl, hS⟩
  clear HS; have HS := Lib.hid hS; clear hS
  refine ⟨_, rfl, hK _ _ ?_⟩
  clear hK K
  simp only [Act.put, List.setIfInBounds_toArray, List.set_cons_succ, List.set_cons_zero]
  repeat (refine BigFrame.wpList_want (by rfl) (fun K hK => ?_); (first | go_big_move | go_big_op); refine hK _ _ ?_; clear hK K)
  refine BigFrame.wpList_want (by rfl) (fun K hK => ?_)
  refine wp_callee (f := 22) (args := #[v18', v2]) (by go_simp) ?_
  refine (same_st HS.out 1 26 rfl rfl FF.out.h6).mono ?_
  rintro e w24 ⟨rfl, hS⟩
  clear HS; have HS := Lib.hid hS; clear hS
  refine ⟨_, rfl, hK _ _ ?_⟩
  clear hK K
  simp only [Act.put, List.setIfInBounds_toArray, List.set_cons_succ, List.set_cons_zero]
  repeat (refine BigFrame.wpList_want (by rfl) (fun K hK => ?_); (first | go_big_move | go_big_op); refine hK _ _ ?_; clear hK K)
  refine wpList_nil ?_
  go_wp2_with (fail)
  refine (whole_st HS.out).mono ?_
  rintro e w25 ⟨v25, rfl, hS⟩
  clear HS; have HS := Lib.hid hS; clear hS
  go_wp2_with (fail)
  refine (minus_st HS.out 0 27 rfl rfl FF.out.q1 FF.out.r1).mono ?_
  rintro e w26 ⟨v26, rfl, hS⟩
  clear HS; have HS := Lib.hid hS; clear hS
  go_wp2_with (fail)
  refine (whole_st HS.out).mono ?_
  rintro e w27 ⟨v27, rfl, hS⟩
  clear HS; have HS := Lib.hid hS; clear hS
  go_wp2_with (fail)
  refine (minus_st HS.out 0 1 rfl rfl FF.out.q2 FF.out.r2).mono ?_
  rintro e w28 ⟨v28, rfl, hS⟩
  clear HS; have HS := Lib.hid hS; clear hS
  go_wp2_with (fail)
  refine (minus_st HS.out 30 29 rfl rfl FF.out.q3 FF.out.r3).mono ?_
  rintro e w29 ⟨v29, rfl, hS⟩
  clear HS; have HS := Lib.hid hS; clear hS
  go_wp2_with (fail)
  refine (minus_st HS.out 0 29 rfl rfl FF.out.q4 FF.out.r4).mono ?_
  rintro e w30 ⟨v30, rfl, hS⟩
  clear HS; have HS := Lib.hid hS; clear hS
  go_wp2_with (fail)
  refine (minus_st HS.out 32 24 rfl rfl FF.out.q5 FF.out.r5).mono ?_
  rintro e w31 ⟨v31, rfl, hS⟩
  clear HS; have HS := Lib.hid hS; clear hS
  go_upto_region 28 with (fail)
  refine wp_region_lit ?_
  repeat (refine BigFrame.wpList_want (by rfl) (fun K hK => ?_); (first | go_big_move | go_big_op); refine hK _ _ ?_; clear hK K)
  refine BigFrame.wpList_want (by rfl) (fun K hK => ?_)
  refine wp_callee (f := 22) (args := #[v28, v2]) (by go_simp) ?_
  refine (same_st HS.out 3 33 rfl rfl FF.out.h7).mono ?_
  rintro e w32 ⟨rfl, hS⟩
  clear HS; have HS := Lib.hid hS; clear hS
  refine ⟨_, rfl, hK _ _ ?_⟩
  clear hK K
  simp only [Act.put, List.setIfInBounds_toArray, List.set_cons_succ, List.set_cons_zero]
  repeat (refine BigFrame.wpList_want (by rfl) (fun K hK => ?_); (first | go_big_move | go_big_op); refine hK _ _ ?_; clear hK K)
  refine BigFrame.wpList_want (by rfl) (fun K hK => ?_)
  refine wp_callee (f := 22) (args := #[v30, v31]) (by go_simp) ?_
  refine (same_st HS.out 1 0 rfl rfl FF.out.h8).mono ?_
  rintro e w33 ⟨rfl, hS⟩
  clear HS; have HS := Lib.hid hS; clear hS
  refine ⟨_, rfl, hK _ _ ?_⟩
  clear hK K
  simp only [Act.put, List.setIfInBounds_toArray, List.set_cons_succ, List.set_cons_zero]
  repeat (refine BigFrame.wpList_want (by rfl) (fun K hK => ?_); (first | go_big_move | go_big_op); refine hK _ _ ?_; clear hK K)
  refine wpList_nil ?_
  go_wp2_with (fail)
  go_ret
  exact ⟨rfl, HS.out.bel⟩
end Go.Proofs.YtplamgmmncenjaaDoorR
