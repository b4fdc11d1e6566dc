/- Walk of the law AreaSizes. -/
import Derived.Test.YtplamgmmncenjaaDoorRW21
namespace Go.Proofs.YtplamgmmncenjaaDoorR
open Go.RowKit
set_option maxRecDepth 100000 in
set_option maxHeartbeats 40000000 in
theorem asizes_any (x : List Rct) (y : List Rct) (vx : Value) (vy : Value) (w : World) (hx : SlR w vx x) (ox : xok x) (hy : SlR w vy y) (oy : xok y) (hT : HasTab w) :
    Calls Tryd.prog 5 #[vx, vy] w fun e w' => e = .returned (.bool true) ∧ Below w.heap.size w w' := by
  obtain ⟨A0, n0, c0, k0, rfl, hn0, hnc0, hkn0, hkc0, hkm0, hmin0, hs0⟩ := hx.trim 3 (m := 3) rfl
  obtain ⟨A1, n1, c1, k1, rfl, hn1, hnc1, hkn1, hkc1, hkm1, hmin1, hs1⟩ := hy.trim 3 (m := 3) rfl
  obtain ⟨u, c, m, F⟩ := sizes_facts (x.take 3) (y.take 3) (take_min_len _ _) (take_min_len _ _)
  obtain ⟨a, ha⟩ : ∃ l, l = madeL (x.take 3) := ⟨_, rfl⟩
  rw [← ha] at F
  have Ha := Lib.hid ha.symm; clear ha
  obtain ⟨b, hb⟩ : ∃ l, l = madeL (y.take 3) := ⟨_, rfl⟩
  rw [← hb] at F
  have Hb := Lib.hid hb.symm; clear hb
  have FF := Lib.hid F; clear F
  have hS := St.start hT
  have hS := hS.step (Below.refl _ w) hs1
  have hS := hS.step (Below.refl _ w) hs0
  have OXx := Lib.hid (xok_take ox 3)
  have OXy := Lib.hid (xok_take oy 3)
  clear ox hx hs0 oy hy hs1
  have HS := Lib.hid hS
  clear hS hT
  obtain ⟨sa, hsa⟩ : ∃ s : Int, (sizeL a : Int) = s := ⟨_, rfl⟩
  have ba0 : 0 ≤ sa := by rw [← hsa]; exact Int.natCast_nonneg _
  have ba1 : sa ≤ 4096 := by rw [← hsa]; have := sizeL_le a; omega
  obtain ⟨sb, hsb⟩ : ∃ s : Int, (sizeL b : Int) = s := ⟨_, rfl⟩
  have bb0 : 0 ≤ sb := by rw [← hsb]; exact Int.natCast_nonneg _
  have bb1 : sb ≤ 4096 := by rw [← hsb]; have := sizeL_le b; omega
  obtain ⟨su, hsu⟩ : ∃ s : Int, (sizeL u : Int) = s := ⟨_, rfl⟩
  have bu0 : 0 ≤ su := by rw [← hsu]; exact Int.natCast_nonneg _
  have bu1 : su ≤ 4096 := by rw [← hsu]; have := sizeL_le u; omega
  obtain ⟨sc, hsc⟩ : ∃ s : Int, (sizeL c : Int) = s := ⟨_, rfl⟩
  have bc0 : 0 ≤ sc := by rw [← hsc]; exact Int.natCast_nonneg _
  have bc1 : sc ≤ 4096 := by rw [← hsc]; have := sizeL_le c; omega
  obtain ⟨sm, hsm⟩ : ∃ s : Int, (sizeL m : Int) = s := ⟨_, rfl⟩
  have bm0 : 0 ≤ sm := by rw [← hsm]; exact Int.natCast_nonneg _
  have bm1 : sm ≤ 4096 := by rw [← hsm]; have := sizeL_le m; omega
  have e1 : su + sc = sa + sb := by rw [← hsu, ← hsc, ← hsa, ← hsb]; exact FF.out.s1
  have e2 : sm = sa - sc := by rw [← hsm, ← hsc, ← hsa]; exact FF.out.s2
  have HSa := Lib.hid hsa; clear hsa
  have HSb := Lib.hid hsb; clear hsb
  have HSu := Lib.hid hsu; clear hsu
  have HSc := Lib.hid hsc; clear hsc
  have HSm := Lib.hid hsm; clear hsm
  go_enter Tryd.func5, Tryd.ntmps5
  go_wp2_with (fail)
  refine (sane_st HS.out).mono ?_
  rintro e w1 ⟨rfl, hS⟩
  clear HS; have HS := Lib.hid hS; clear hS
  go_wp2_with (fail)
  refine (made_st HS.out 0 rfl OXx.out Ha.out).mono ?_
  rintro e w2 ⟨v2, rfl, hS⟩
  clear HS; have HS := Lib.hid hS; clear hS
  go_wp2_with (fail)
  refine (made_st HS.out 2 rfl OXy.out Hb.out).mono ?_
  rintro e w3 ⟨v3, rfl, hS⟩
  clear HS; have HS := Lib.hid hS; clear hS
  go_wp2_with (fail)
  refine (union_st HS.out 1 0 rfl rfl FF.out.eo FF.out.lo).mono ?_
  rintro e w4 ⟨v4, rfl, hS⟩
  clear HS; have HS := Lib.hid hS; clear hS
  go_wp2_with (fail)
  refine (common_st HS.out 2 1 rfl rfl FF.out.ea FF.out.la).mono ?_
  rintro e w5 ⟨v5, rfl, hS⟩
  clear HS; have HS := Lib.hid hS; clear hS
  go_wp2_with (fail)
  refine (minus_st HS.out 3 2 rfl rfl FF.out.em FF.out.lm).mono ?_
  rintro e w6 ⟨v6, rfl, hS⟩
  clear HS; have HS := Lib.hid hS; clear hS
  go_wp2_with (fail)
  refine (size_st HS.out 2 rfl HSu.out).mono ?_
  rintro e w7 ⟨rfl, hS⟩
  clear HS; have HS := Lib.hid hS; clear hS
  go_wp2_with (fail)
  refine (size_st HS.out 1 rfl HSc.out).mono ?_
  rintro e w8 ⟨rfl, hS⟩
  clear HS; have HS := Lib.hid hS; clear hS
  go_wp2_with (fail)
  refine (size_st HS.out 4 rfl HSa.out).mono ?_
  rintro e w9 ⟨rfl, hS⟩
  clear HS; have HS := Lib.hid hS; clear hS
  go_wp2_with (fail)
  refine (size_st HS.out 3 rfl HSb.out).mono ?_
  rintro e w10 ⟨rfl, hS⟩
  clear HS; have HS := Lib.hid hS; clear hS
  go_wp2_with (fail)
  refine (size_st HS.out 0 rfl HSm.out).mono ?_
  rintro e w11 ⟨rfl, hS⟩
  clear HS; have HS := Lib.hid hS; clear hS
  go_wp2_with (fail)
  refine (size_st HS.out 4 rfl HSa.out).mono ?_
  rintro e w12 ⟨rfl, hS⟩
  clear HS; have HS := Lib.hid hS; clear hS
  go_wp2_with (fail)
  refine (size_st HS.out 1 rfl HSc.out).mono ?_
  rintro e w13 ⟨rfl, hS⟩
  clear HS; have HS := Lib.hid hS; clear hS
  obtain ⟨Aqa, cqa, hvqa, hlqa, hmqa, _⟩ := (HS.out.get 4 rfl).form
  subst hvqa
  obtain ⟨Aqb, cqb, hvqb, hlqb, hmqb, _⟩ := (HS.out.get 3 rfl).form
  subst hvqb
  obtain ⟨Aqu, cqu, hvqu, hlqu, hmqu, _⟩ := (HS.out.get 2 rfl).form
  subst hvqu
  obtain ⟨Aqc, cqc, hvqc, hlqc, hmqc, _⟩ := (HS.out.get 1 rfl).form
  subst hvqc
  obtain ⟨Aqm, cqm, hvqm, hlqm, hmqm, _⟩ := (HS.out.get 0 rfl).form
  subst hvqm
  clear hlqa hmqa hlqb hmqb hlqu hmqu hlqc hmqc hlqm hmqm
  go_wp2_with (fail)
  have hcells : ∀ k, k < 5 → ∃ v l, (#[.slice Aqa a.length cqa, .slice Aqb b.length cqb, .slice Aqu u.length cqu, .slice Aqc c.length cqc, .slice Aqm m.length cqm] : Array Value)[k]? = some v ∧ (v, l) ∈ ([(.slice Aqm m.length cqm, m), (.slice Aqc c.length cqc, c), (.slice Aqu u.length cqu, u), (.slice Aqb b.length cqb, b), (.slice Aqa a.length cqa, a), (.slice A0 k0 c0, x.take 3), (.slice A1 k1 c1, y.take 3)] : List (Value × List Rct)) ∧ SizeF l := by
    intro k hk
    match k, hk with
    | 0, _ => exact ⟨.slice Aqa a.length cqa, a, rfl, List.mem_of_getElem? (i := 4) rfl, FF.out.fa⟩
    | 1, _ => exact ⟨.slice Aqb b.length cqb, b, rfl, List.mem_of_getElem? (i := 3) rfl, FF.out.fb⟩
    | 2, _ => exact ⟨.slice Aqu u.length cqu, u, rfl, List.mem_of_getElem? (i := 2) rfl, FF.out.fu⟩
    | 3, _ => exact ⟨.slice Aqc c.length cqc, c, rfl, List.mem_of_getElem? (i := 1) rfl, FF.out.fc⟩
    | 4, _ => exact ⟨.slice Aqm m.length cqm, m, rfl, List.mem_of_getElem? (i := 0) rfl, FF.out.fm⟩
  generalize hW : World.alloc _ _ = W
  have hS : St w W [(.slice Aqm m.length cqm, m), (.slice Aqc c.length cqc, c), (.slice Aqu u.length cqu, u), (.slice Aqb b.length cqb, b), (.slice Aqa a.length cqa, a), (.slice A0 k0 c0, x.take 3), (.slice A1 k1 c1, y.take 3)] := by rw [← hW]; exact HS.out.still ((Below.refl _ _).alloc (Nat.le_refl _) _)
  have hcell : ∀ k, k < 5 → ∃ v l, W.cell? ⟨w13.heap.size, k, none⟩ = some v ∧ (v, l) ∈ ([(.slice Aqm m.length cqm, m), (.slice Aqc c.length cqc, c), (.slice Aqu u.length cqu, u), (.slice Aqb b.length cqb, b), (.slice Aqa a.length cqa, a), (.slice A0 k0 c0, x.take 3), (.slice A1 k1 c1, y.take 3)] : List (Value × List Rct)) ∧ SizeF l := by
    intro k hk
    obtain ⟨v, l, h1, h2, h3⟩ := hcells k hk
    exact ⟨v, l, by rw [← hW, (Blk.new _ _ _).cell]; exact h1, h2, h3⟩
  clear hcells hW
  have hwl : w13.heap.size < W.heap.size := by obtain ⟨v, l, h1, _⟩ := hcell 0 (by omega); exact cell_lt h1
  generalize w13.heap.size = p at *
  clear HS
  obtain ⟨ps, hps⟩ : ∃ q : List (Value × List Rct), q = [(.slice Aqm m.length cqm, m), (.slice Aqc c.length cqc, c), (.slice Aqu u.length cqu, u), (.slice Aqb b.length cqb, b), (.slice Aqa a.length cqa, a), (.slice A0 k0 c0, x.take 3), (.slice A1 k1 c1, y.take 3)] := ⟨_, rfl⟩
  rw [← hps] at hS hcell; clear hps
  have HS := Lib.hid hS; have HC := Lib.hid hcell
  clear hS hcell FF
  go_loopw [15, 16, 17, 91] (fun _ _ _ i wr => ∃ k : Nat, k ≤ 5 ∧ i = .int .i64 (k : Int) ∧ Hid (St w wr ps) ∧ Below W.heap.size W wr) (fun _ _ _ i _ => 5 - (intOf i).toNat)
  case atStart => exact ⟨0, by omega, rfl, HS, Below.refl _ _⟩
  case round =>
    obtain ⟨k, hk, rfl, hS, hbW⟩ := hrel
    by_cases hlt : k < 5
    · obtain ⟨v, l, hc, hmem, hsz⟩ := HC.out k hlt
      have hc2 := (hbW.cell (p := ⟨p, k, none⟩) hwl).trans hc
      have hv : SlR _ v l := hS.out.all (v, l) hmem
      obtain ⟨A, c, rfl, hlc, hcm, _⟩ := hv.form
      obtain ⟨n, hn⟩ : ∃ n, n = l.length := ⟨_, rfl⟩
      rw [← hn] at hc2 hmem hv hlc
      have hnm : n ≤ 100 := by rw [hn]; exact hsz.len
      have i0 : (0 : Int) ≤ (k : Int) := by omega
      have i1 : (k : Int) < 5 := by omega
      have HM := Lib.hid hmem; have HZ := Lib.hid hsz; have HN := Lib.hid hn; have HBW := Lib.hid hbW
      clear hmem hsz hn hc hv hcm hbW
      go_wp2_with (fail)
      refine (size_any l _ _ (hS.out.all _ HM.out) hS.out.tab).mono ?_
      rintro e w1 ⟨rfl, hb1⟩
      have hS1 := Lib.hid (hS.out.still hb1)
      have HB1 := Lib.hid (HBW.out.trans (hb1.mono HBW.out.size))
      obtain ⟨sz, hsz⟩ : ∃ s : Int, (sizeL l : Int) = s := ⟨_, rfl⟩
      rw [hsz]
      have HSZ := Lib.hid hsz
      clear hsz hb1 hc2
      go_wp2_with (fail)
      refine (sum_any l _ _ (hS1.out.all _ HM.out) HZ.out.ok (Nat.le_trans HZ.out.len (by omega))).mono ?_
      rintro e w2 ⟨rfl, nd, rfl⟩
      rw [HZ.out.sum, HSZ.out]
      have hS2 := Lib.hid (hS1.out.drewN nd)
      have HB2 := Lib.hid (below_drewN HB1.out nd)
      generalize w1.drewN nd = w2 at *
      have hv2 : SlR w2 (.slice A n c) l := hS2.out.all _ HM.out
      obtain ⟨A', c', hAc, _, hcm, hf⟩ := hv2.form
      rw [← HN.out] at hAc hf
      cases hAc
      have HF := Lib.hid hf
      clear hf hv2 hcm HB1 HS
      go_wp2_with (fail)
      go_loopw [16, 17] (fun i _ wr => ∃ i' : Nat, i' ≤ n ∧ i = .int .i64 (i' : Int) ∧ (∃ q, wr = w2.drewN q)) (fun i _ _ => n - (intOf i).toNat)
      case atStart => exact ⟨0, by omega, rfl, 0, rfl⟩
      case round =>
        obtain ⟨i, hi, rfl, q, rfl⟩ := hrel
        by_cases hil : i < n
        · have j0 : (0 : Int) ≤ (i : Int) := by omega
          have j1 : (i : Int) < (n : Int) := by omega
          go_wp2_with (fail)
          go_loopw [17] (fun j wr => ∃ j' : Nat, j' ≤ i ∧ j = .int .i64 (j' : Int) ∧ (∃ q, wr = w2.drewN q)) (fun j _ => i - (intOf j).toNat)
          case atStart => exact ⟨0, by omega, rfl, q, rfl⟩
          case round =>
            obtain ⟨j, hj, rfl, q2, rfl⟩ := hrel
            by_cases hjl : j < i
            · obtain ⟨b, of', rfl, hbl, g⟩ := HF.out i hil
              obtain ⟨c1, c2, c3, c4⟩ := g i hil
              obtain ⟨d1, d2, d3, d4⟩ := g j (by omega)
              have hcut := HZ.out.cut i j (by rw [← HN.out]; exact hil) hjl
              have o1 := okR_parts (allOk_getD HZ.out.ok (k := i) (by rw [← HN.out]; exact hil))
              have o2 := okR_parts (allOk_getD HZ.out.ok (k := j) (by rw [← HN.out]; omega))
              obtain ⟨r1, hr1⟩ : ∃ r, r = l.getD i default := ⟨_, rfl⟩
              obtain ⟨r2, hr2⟩ : ∃ r, r = l.getD j default := ⟨_, rfl⟩
              rw [← hr1] at c1 c2 c3 c4 hcut o1
              rw [← hr2] at d1 d2 d3 d4 hcut o2
              clear g hr1 hr2
              obtain ⟨l1, u1, lo1, hi1⟩ := r1
              obtain ⟨l2, u2, lo2, hi2⟩ := r2
              simp only at c1 c2 c3 c4 d1 d2 d3 d4 hcut o1 o2
              have k0 : (0 : Int) ≤ (j : Int) := by omega
              have k1 : (j : Int) < (n : Int) := by omega
              have k2 : (j : Int) < (i : Int) := by omega
              by_cases hx : max l1 l2 < min u1 u2
              · have hy : ¬ (max lo1 lo2 < min hi1 hi2) := fun h => hcut ⟨hx, h⟩
                have dx : decide (max l1 l2 < min u1 u2) = true := dt hx
                have dy : decide (max lo1 lo2 < min hi1 hi2) = false := df hy
                clear hcut hx hy o1 o2
                go_wp2_with (fail)
                refine region_quiet_tail_lit 46 (by kernel_rfl) (by kernel_rfl) ?_
                simp only [List.take_succ_cons, List.take_zero, List.drop_succ_cons, List.drop_zero]
                repeat (go_big_quiet_step (fail))
                refine wpQuiet_nil ?_
                intro _ hw'
                obtain ⟨nq, hw''⟩ := hw'
                subst hw''
                go_wp2_with (fail)
                go_roundw
                case rel => exact ⟨j + 1, by omega, by go_num, q2 + nq, by first | rfl | rw [World.drewN_drewN]⟩
                case measure => simp [intOf]; omega
              · have dx : decide (max l1 l2 < min u1 u2) = false := df hx
                clear hcut hx o1 o2
                go_wp2_with (fail)
                refine region_quiet_tail_lit 46 (by kernel_rfl) (by kernel_rfl) ?_
                simp only [List.take_succ_cons, List.take_zero, List.drop_succ_cons, List.drop_zero]
                repeat (go_big_quiet_step (fail))
                refine wpQuiet_nil ?_
                intro _ hw'
                obtain ⟨nq, hw''⟩ := hw'
                subst hw''
                go_wp2_with (fail)
                go_roundw
                case rel => exact ⟨j + 1, by omega, by go_num, q2 + nq, by first | rfl | rw [World.drewN_drewN]⟩
                case measure => simp [intOf]; omega
            · obtain rfl : j = i := by omega
              go_wp2_with (fail)
              go_roundw
              case rel => exact ⟨j + 1, by omega, by go_num, q2, rfl⟩
              case measure => simp [intOf]; omega
        · obtain rfl : i = n := by omega
          go_wp2_with (fail)
          go_roundw
          case rel => exact ⟨k + 1, by omega, by go_num, Lib.hid (hS2.out.drewN q), below_drewN HB2.out q⟩
          case measure => simp [intOf]; omega
    · obtain rfl : k = 5 := by omega
      go_wp2_with (fail)
      refine (whole_st hS.out).mono ?_
      rintro e w1 ⟨v, rfl, hS1⟩
      go_wp2_with (fail)
      refine (size_st hS1 0 rfl size_whole).mono ?_
      rintro e w2 ⟨rfl, hS2⟩
      go_wp2_with (fail)
      go_ret
      exact ⟨rfl, hS2.bel⟩
end Go.Proofs.YtplamgmmncenjaaDoorR
