/- Walk of the law AreaPointwise. -/
import Derived.Test.YtplamgmmncenjaaDoorRW23
import Derived.Test.YtplamgmmncenjaaDoorRP12
namespace Go.Proofs.YtplamgmmncenjaaDoorR
open Go.RowKit
def encP (p : Int × Int) : List Value := [.int .i64 p.1, .int .i64 p.2]
def cellsP (l : List (Int × Int)) : List Value := l.flatMap encP
theorem cellsP_len (l : List (Int × Int)) : (cellsP l).length = l.length * 2 := by
  induction l with
  | nil => rfl
  | cons q l ih => show (encP q ++ cellsP l).length = _; rw [List.length_append, ih, List.length_cons]; show 2 + l.length * 2 = _; omega
theorem cellsP_app (l m : List (Int × Int)) : cellsP (l ++ m) = cellsP l ++ cellsP m := by simp [cellsP]
theorem cellsP_get : ∀ (l : List (Int × Int)) (k j : Nat), k < l.length → j < 2 → (cellsP l)[k * 2 + j]? = (encP (l.getD k (0, 0)))[j]?
  | [], _, _, h, _ => by simp at h
  | q :: l, 0, j, _, hj => by
    show (encP q ++ cellsP l)[0 * 2 + j]? = _
    rw [List.getElem?_append_left (by simp [encP]; omega), Nat.zero_mul, Nat.zero_add]; rfl
  | q :: l, k + 1, j, h, hj => by
    show (encP q ++ cellsP l)[(k + 1) * 2 + j]? = _
    rw [List.getElem?_append_right (by simp [encP]; omega), show (k + 1) * 2 + j - (encP q).length = k * 2 + j by simp [encP]; omega, cellsP_get l k j (by simpa using h) hj]
    rfl
theorem wpList_append_three {ops : Array Oper} {rest : List Oper} {o : Oper} {a : Act} {w : World} {Q : Exit → Act → World → Prop} (hgd : o.guard = none) (s x : Operand)
    (ho : o.op = .call { callee := .builtin .append, args := #[s, x], argTypes := #[33, 33] })
    (base : Nat) (v : Value) (L : List (Int × Int)) (p q r : Int × Int) (b c : Nat) (hs : a.eval s = v) (hx : a.eval x = .slice (some ⟨b, 0, none⟩) 3 c) (hown : w.ownsRow base 32 2 v L.length (cellsP L))
    (hb : Blk w b 32 #[.int .i64 p.1, .int .i64 p.2, .int .i64 q.1, .int .i64 q.2, .int .i64 r.1, .int .i64 r.2]) (hlen : L.length ≤ 100000) (hbase : base ≤ w.heap.size)
    (h : ∀ v' w', w'.ownsRow base 32 2 v' (L ++ [p, q, r]).length (cellsP (L ++ [p, q, r])) → w.grownBy w' v.ownBlock → wpList Tryd.prog ops Q rest (a.put o.dst v') w') : wpList Tryd.prog ops Q (o :: rest) a w := by
  obtain ⟨i0, hi, hz0, hz1, hz2⟩ := info_parts pairInfo
  refine wpList_append_own_at _ hgd s x 33 ho base 32 i0 (.agg #[.int .i64 0, .int .i64 0]) 2 16 Tryd.underlying33 hi hz0 hz1 hz2 rfl (by decide) v L.length (cellsP L) hs hown ⟨b, 0, none⟩ 3 c (cellsP [p, q, r]) hx rfl
    (fun j u hu => by rw [add_zero_off, hb.cell, List.getElem?_toArray]; exact hu) (by simp [cellsP, encP, Value.oneCell']) (by unfold maxLen; omega) (by omega) hbase ?_
  intro v' w' h1 h2 _ _
  refine h v' w' ?_ h2
  rw [cellsP_app, List.length_append]; exact h1
/-- in a round of the second loop -/
structure Pl (w W2 : World) (ps : List (Value × List Rct)) (B : Nat) (x y : Int) (w' : World) : Prop where
  st : St w w' ps
  bel : Below W2.heap.size W2 w'
  c0 : w'.cell? ⟨B, 0, none⟩ = some (.int .i64 x)
  c1 : w'.cell? ⟨B, 1, none⟩ = some (.int .i64 y)
section
variable {w W2 w' : World} {ps : List (Value × List Rct)} {B : Nat} {x y : Int} {va : Value} {a : List Rct}
theorem Pl.next (h : Pl w W2 ps B x y w') {w'' : World} (k : Below w'.heap.size w' w'') : Pl w W2 ps B x y w'' :=
  ⟨h.st.still k, h.bel.trans (k.mono h.bel.size), (k.cell (p := ⟨B, 0, none⟩) (cell_lt h.c0)).trans h.c0, (k.cell (p := ⟨B, 1, none⟩) (cell_lt h.c1)).trans h.c1⟩
theorem sees_cls {q : Bool} (h : Pl w W2 ps B x y w') (i : Nat) (hi : ps[i]? = some (va, a)) (hR : (hasL a x y == seesW x y q) = true) :
    Calls Tryd.prog 18 #[va, .int .i64 x, .int .i64 y, .bool q] w' fun e w'' => e = .returned (.bool true) ∧ Pl w W2 ps B x y w'' :=
  (sees_any a va x y q w' (h.st.get i hi) h.st.tab).mono fun _ _ ⟨he, hb⟩ => ⟨by rw [he, hR], h.next hb⟩
theorem near_cls {d : Int} {r : Bool} (h : Pl w W2 ps B x y w') (i : Nat) (hi : ps[i]? = some (va, a)) (hok : allOk a = true) (h0 : 0 ≤ d) (h1 : d ≤ 64) (hR : a.any (nearR x y d) = r) :
    Calls Tryd.prog 19 #[va, .int .i64 x, .int .i64 y, .int .i64 d] w' fun e w'' => e = .returned (.bool r) ∧ Pl w W2 ps B x y w'' :=
  (near_any a va x y d w' (h.st.get i hi) hok h0 h1).mono fun _ _ ⟨he, hb⟩ => ⟨by rw [he, hR], h.next hb⟩
theorem has_cls {r : Bool} (h : Pl w W2 ps B x y w') (i : Nat) (hi : ps[i]? = some (va, a)) (hR : hasL a x y = r) :
    Calls Tryd.prog 17 #[va, .int .i64 x, .int .i64 y] w' fun e w'' => e = .returned (.bool r) ∧ Pl w W2 ps B x y w'' :=
  (hasA_any a va x y w' (h.st.get i hi) h.st.tab).mono fun _ _ ⟨he, hb⟩ => ⟨by rw [he, hR], h.next hb⟩
end
section
variable {P : Program} {ops : Array Oper} {D : World → Prop} {s : Nat}
theorem region_class {id : Nat} {Q : Exit → Act → World → Prop} {a : Act} {w : World} {l : List Oper} (n : Nat) (hm : P.follows .mixedOrders = true) (hB : Region.lexTailB .any l.toArray n = true) (hD : D (w.drewN 1))
    (h : wpP P l.toArray (fun _ => D) n (fun a' => ∀ w', D w' → wpList P l.toArray Q (l.drop n) a' w') 0 (l.take n) a) : (Code.region id l.toArray true).wp P Q a w :=
  wp_region_any hm (any_phase (C := fun _ => D) (s := n) n hB hD h)
theorem cls_pure {i : Nat} {o : Oper} {a : Act} {v : Value} (hv : ∀ w, (execOp a.eval o).run P w = .ok (.value v) w) : okStep P (fun _ => D) s i o a v := by
  unfold okStep
  split
  · intro w hw; rw [hv]; exact ⟨rfl, hw⟩
  · intro _ w hw; rw [hv]; exact ⟨rfl, hw⟩
theorem cls_load {i : Nat} {o : Oper} {a : Act} {v : Value} (hv : ∀ w, D w → (execOp a.eval o).run P w = .ok (.value v) w) : okStep P (fun _ => D) s i o a v := by
  unfold okStep
  split
  · intro w hw; rw [hv w hw]; exact ⟨rfl, hw⟩
  · intro _ w hw; rw [hv w hw]; exact ⟨rfl, hw⟩
theorem cls_call {i : Nat} {o : Oper} {a : Act} {v : Value} {f : FuncId} {args : Array Value} (hv : ∀ w, (execOp a.eval o).run P w = .ok (.enter f args) w) (hc : ∀ w, D w → Calls P f args w fun e w' => e = .returned v ∧ D w') : okStep P (fun _ => D) s i o a v := by
  unfold okStep
  split
  · intro w hw; rw [hv w]; exact hc w hw
  · intro _ w hw; rw [hv w]; exact hc w hw
theorem wpP_want {C : Bool → World → Prop} {Q : Act → Prop} {k : Nat} {o : Oper} {rest : List Oper} {a : Act} (hg : Region.wanted o (yielded ops a.tmps) = true) (v : Value) (h : okStep P C s k o a v) (hn : wpP P ops C s Q (k + 1) rest (a.put o.dst v)) : wpP P ops C s Q k (o :: rest) a := by
  unfold wpP
  rw [if_pos hg]
  exact ⟨v, h, hn⟩
theorem wpP_pass {C : Bool → World → Prop} {Q : Act → Prop} {k : Nat} {o : Oper} {rest : List Oper} {a : Act} (hg : Region.wanted o (yielded ops a.tmps) = false) (hk : k ≠ s) (hn : wpP P ops C s Q (k + 1) rest (a.put o.dst undef)) : wpP P ops C s Q k (o :: rest) a := by
  unfold wpP
  rw [if_neg (by rw [hg]; decide)]
  exact ⟨hk, hn⟩
end
set_option maxRecDepth 100000 in
set_option maxHeartbeats 40000000 in
theorem apointwise_any (x y : List Rct) (px py d : Int) (vx vy : Value) (w : World) (hx : SlR w vx x) (ox : xok x) (hy : SlR w vy y) (oy : xok y) (hpx : isInt px) (hpy : isInt py) (hd : isInt d) (hT : HasTab w) :
    Calls Tryd.prog 3 #[vx, vy, .int .i64 px, .int .i64 py, .int .i64 d] w fun e w' => e = .returned (.bool true) ∧ Below w.heap.size w w' := by
  obtain ⟨dd, hdd⟩ : ∃ i, i = pickI d 6 := ⟨_, rfl⟩
  have r1 := pickI_range (c := d) (n := 6) (by omega)
  rw [← hdd] at r1
  have Hdd := Lib.hid hdd; clear hdd
  obtain ⟨A0, n0, c0, k0, rfl, hn0, hnc0, hkn0, hkc0, hkm0, hmin0, hs0⟩ := hx.trim 3 (m := 3) rfl
  obtain ⟨A1, n1, c1, k1, rfl, hn1, hnc1, hkn1, hkc1, hkm1, hmin1, hs1⟩ := hy.trim 3 (m := 3) rfl
  obtain ⟨u, c, m, gg, F⟩ := point_facts (x.take 3) (y.take 3) (take_min_len _ _) (take_min_len _ _) dd r1.1 (by omega)
  obtain ⟨a, ha⟩ : ∃ l, l = madeL (x.take 3) := ⟨_, rfl⟩
  rw [← ha] at F
  have Ha := Lib.hid ha.symm; clear ha
  obtain ⟨b, hb⟩ : ∃ l, l = madeL (y.take 3) := ⟨_, rfl⟩
  rw [← hb] at F
  have Hb := Lib.hid hb.symm; clear hb
  have FF := Lib.hid F; clear F
  have hS := St.start hT
  have hS := hS.step (Below.refl _ w) hs1
  have hS := hS.step (Below.refl _ w) hs0
  have OXx := Lib.hid (xok_take ox 3)
  have OXy := Lib.hid (xok_take oy 3)
  clear ox hx hs0 oy hy hs1
  have HS := Lib.hid hS
  clear hS hT
  obtain ⟨x1, hx1⟩ : ∃ i, i = pickI px 18 := ⟨_, rfl⟩
  have rx1 := pickI_range (c := px) (n := 18) (by omega)
  rw [← hx1] at rx1
  obtain ⟨lx1, ux1⟩ := rx1
  have Hx1 := Lib.hid hx1; clear hx1
  obtain ⟨y1, hy1⟩ : ∃ i, i = pickI py 18 := ⟨_, rfl⟩
  have ry1 := pickI_range (c := py) (n := 18) (by omega)
  rw [← hy1] at ry1
  obtain ⟨ly1, uy1⟩ := ry1
  have Hy1 := Lib.hid hy1; clear hy1
  obtain ⟨x2, hx2⟩ : ∃ i, i = pickI px 66 := ⟨_, rfl⟩
  have rx2 := pickI_range (c := px) (n := 66) (by omega)
  rw [← hx2] at rx2
  obtain ⟨lx2, ux2⟩ := rx2
  have Hx2 := Lib.hid hx2; clear hx2
  obtain ⟨y2, hy2⟩ : ∃ i, i = pickI py 66 := ⟨_, rfl⟩
  have ry2 := pickI_range (c := py) (n := 66) (by omega)
  rw [← hy2] at ry2
  obtain ⟨ly2, uy2⟩ := ry2
  have Hy2 := Lib.hid hy2; clear hy2
  obtain ⟨e1, he1⟩ : ∃ i, i = pickI px 2 := ⟨_, rfl⟩
  have re1 := pickI_range (c := px) (n := 2) (by omega)
  rw [← he1] at re1
  obtain ⟨le1, ue1⟩ := re1
  have He1 := Lib.hid he1; clear he1
  obtain ⟨e2, he2⟩ : ∃ i, i = pickI py 2 := ⟨_, rfl⟩
  have re2 := pickI_range (c := py) (n := 2) (by omega)
  rw [← he2] at re2
  obtain ⟨le2, ue2⟩ := re2
  have He2 := Lib.hid he2; clear he2
  obtain ⟨d0, d5⟩ := r1
  have d64 : dd ≤ 64 := by omega
  have HPX := Lib.hid hpx; have HPY := Lib.hid hpy; have HD := Lib.hid hd; clear hpx hpy hd
  go_enter Tryd.func3, Tryd.ntmps3
  go_wp2_with (fail)
  refine (sane_st HS.out).mono ?_
  rintro e w1 ⟨rfl, hS⟩
  clear HS; have HS := Lib.hid hS; clear hS
  go_wp2_with (fail)
  refine (made_st HS.out 0 rfl OXx.out Ha.out).mono ?_
  rintro e w2 ⟨v2, rfl, hS⟩
  clear HS; have HS := Lib.hid hS; clear hS
  go_wp2_with (fail)
  refine (made_st HS.out 2 rfl OXy.out Hb.out).mono ?_
  rintro e w3 ⟨v3, rfl, hS⟩
  clear HS; have HS := Lib.hid hS; clear hS
  go_wp2_with (fail)
  refine (pickA_any d 6 HD.out (by omega) (by omega) _).mono ?_
  rintro e w' ⟨rfl, rfl⟩
  rw [← Hdd.out]
  go_wp2_with (fail)
  refine (union_st HS.out 1 0 rfl rfl FF.out.eo FF.out.lo).mono ?_
  rintro e w4 ⟨v4, rfl, hS⟩
  clear HS; have HS := Lib.hid hS; clear hS
  go_wp2_with (fail)
  refine (common_st HS.out 2 1 rfl rfl FF.out.ea FF.out.la).mono ?_
  rintro e w5 ⟨v5, rfl, hS⟩
  clear HS; have HS := Lib.hid hS; clear hS
  go_wp2_with (fail)
  refine (minus_st HS.out 3 2 rfl rfl FF.out.em FF.out.lm).mono ?_
  rintro e w6 ⟨v6, rfl, hS⟩
  clear HS; have HS := Lib.hid hS; clear hS
  go_wp2_with (fail)
  refine (grow_st HS.out 4 dd rfl FF.out.eg FF.out.lg).mono ?_
  rintro e w7 ⟨v7, rfl, hS⟩
  clear HS; have HS := Lib.hid hS; clear hS
  go_wp2_with (fail)
  refine (valid_st HS.out 3 rfl FF.out.vu).mono ?_
  rintro e w8 ⟨rfl, hS⟩
  clear HS; have HS := Lib.hid hS; clear hS
  go_wp2_with (fail)
  refine (valid_st HS.out 2 rfl FF.out.vc).mono ?_
  rintro e w9 ⟨rfl, hS⟩
  clear HS; have HS := Lib.hid hS; clear hS
  go_wp2_with (fail)
  refine (valid_st HS.out 1 rfl FF.out.vm).mono ?_
  rintro e w10 ⟨rfl, hS⟩
  clear HS; have HS := Lib.hid hS; clear hS
  go_wp2_with (fail)
  refine (valid_st HS.out 0 rfl FF.out.vg).mono ?_
  rintro e w11 ⟨rfl, hS⟩
  clear HS; have HS := Lib.hid hS; clear hS
  go_wp2_with (fail)
  refine (pickA_any px 18 HPX.out (by omega) (by omega) _).mono ?_
  rintro e w' ⟨rfl, rfl⟩
  rw [← Hx1.out]
  go_wp2_with (fail)
  refine (pickA_any py 18 HPY.out (by omega) (by omega) _).mono ?_
  rintro e w' ⟨rfl, rfl⟩
  rw [← Hy1.out]
  go_wp2_with (fail)
  refine (pickA_any px 66 HPX.out (by omega) (by omega) _).mono ?_
  rintro e w' ⟨rfl, rfl⟩
  rw [← Hx2.out]
  go_wp2_with (fail)
  refine (pickA_any py 66 HPY.out (by omega) (by omega) _).mono ?_
  rintro e w' ⟨rfl, rfl⟩
  rw [← Hy2.out]
  obtain ⟨Aqa, cqa, hvqa, hlqa, hmqa, _⟩ := (HS.out.get 5 rfl).form
  subst hvqa
  obtain ⟨Aqb, cqb, hvqb, hlqb, hmqb, _⟩ := (HS.out.get 4 rfl).form
  subst hvqb
  go_wp2_with (fail)
  obtain ⟨na, hna⟩ : ∃ n, n = a.length := ⟨_, rfl⟩
  rw [← hna] at HS hlqa ⊢
  have HNa := Lib.hid hna; clear hna
  obtain ⟨nb, hnb⟩ : ∃ n, n = b.length := ⟨_, rfl⟩
  rw [← hnb] at HS hlqb ⊢
  have HNb := Lib.hid hnb; clear hnb
  obtain ⟨ps, hps⟩ : ∃ q : List (Value × List Rct), q = [(v7, gg), (v6, m), (v5, c), (v4, u), (.slice Aqb nb cqb, b), (.slice Aqa na cqa, a), (.slice A0 k0 c0, x.take 3), (.slice A1 k1 c1, y.take 3)] := ⟨_, rfl⟩
  have ia : ps[5]? = some (.slice Aqa na cqa, a) := by rw [hps]; rfl
  have ib : ps[4]? = some (.slice Aqb nb cqb, b) := by rw [hps]; rfl
  have iu : ps[3]? = some (v4, u) := by rw [hps]; rfl
  have ic : ps[2]? = some (v5, c) := by rw [hps]; rfl
  have im : ps[1]? = some (v6, m) := by rw [hps]; rfl
  have ig : ps[0]? = some (v7, gg) := by rw [hps]; rfl
  rw [← hps] at HS; clear hps
  have hpick : ∀ k, k < 2 → ∃ A n c l, (#[.slice Aqa na cqa, .slice Aqb nb cqb] : Array Value)[k]? = some (.slice A n c) ∧ n = l.length ∧ allOk l = true ∧ l.length ≤ 100 ∧ (Value.slice A n c, l) ∈ ps := by
    intro k hk
    match k, hk with
    | 0, _ => exact ⟨_, _, _, a, rfl, HNa.out, FF.out.oa, FF.out.na, List.mem_of_getElem? ia⟩
    | 1, _ => exact ⟨_, _, _, b, rfl, HNb.out, FF.out.ob, FF.out.nb, List.mem_of_getElem? ib⟩
  have Ia := Lib.hid ia; clear ia
  have Ib := Lib.hid ib; clear ib
  have Iu := Lib.hid iu; clear iu
  have Ic := Lib.hid ic; clear ic
  have Im := Lib.hid im; clear im
  have Ig := Lib.hid ig; clear ig
  obtain ⟨p, hp⟩ : ∃ p, p = w11.heap.size := ⟨_, rfl⟩
  generalize hW : World.alloc (World.alloc _ _) _ = W
  have own0 : W.ownsRow p 32 2 (.slice (some ⟨p, 0, none⟩) 2 2) [(x1 - 1, y1 - 1), (x2 - 1, y2 - 1)].length (cellsP [(x1 - 1, y1 - 1), (x2 - 1, y2 - 1)]) := by
    rw [← hW, hp]
    exact ⟨rfl, .inr ⟨_, 2, _, rfl, Nat.le_refl _, (Blk.new _ _ _).alloc _, Nat.le_refl _, by unfold maxLen; omega, rfl, rfl⟩⟩
  have blk0 : Blk W (p + 1) 24 #[.slice Aqa na cqa, .slice Aqb nb cqb] := by
    rw [← hW, hp]
    have := Blk.new (w11.alloc (.cells #[.int .i64 (x1 - 1), .int .i64 (y1 - 1), .int .i64 (x2 - 1), .int .i64 (y2 - 1)] 32)) 24 #[.slice Aqa na cqa, .slice Aqb nb cqb]
    rwa [World.size_alloc] at this
  have bel0 : Below w11.heap.size w11 W := by rw [← hW]; exact ((Below.refl _ _).alloc (Nat.le_refl _) _).alloc (by simp) _
  rw [← hp]
  have OWN0 := Lib.hid own0; have BLK0 := Lib.hid blk0; have HP := Lib.hid hp; have HPICK := Lib.hid hpick
  clear own0 blk0 hW hp hpick
  go_loopw [22, 24, 25, 124] (fun pl _ _ i wr => ∃ k : Nat, k ≤ 2 ∧ i = .int .i64 (k : Int) ∧ Hid (∃ L : List (Int × Int), 0 < L.length ∧ L.length ≤ 2 + 3 * k ∧ wr.ownsRow p 32 2 pl L.length (cellsP L)) ∧ Hid (Blk wr (p + 1) 24 #[.slice Aqa na cqa, .slice Aqb nb cqb]) ∧ Below w11.heap.size w11 wr) (fun _ _ _ i _ => 2 - (intOf i).toNat)
  case atStart => exact ⟨0, by omega, rfl, Lib.hid ⟨_, by simp, by simp, OWN0.out⟩, BLK0, bel0⟩
  case round =>
    obtain ⟨k, hk, rfl, ho, hbk, hb⟩ := hrel
    have HB := Lib.hid hb
    clear hb bel0
    by_cases hlt : k < 2
    · obtain ⟨A, n, c, l, hval, hnl, hok, hl100, hmem⟩ := HPICK.out k hlt
      have hc : wr.cell? ⟨p + 1, k, none⟩ = some (.slice A n c) := by rw [hbk.out.cell]; exact hval
      have hS := HS.out.still HB.out
      have hSl := hS.all _ hmem
      have k0' : (0 : Int) ≤ (k : Int) := by omega
      have k1' : (k : Int) < 2 := by omega
      by_cases hn0 : n = 0
      · subst hn0
        clear hval hnl hok hl100 hmem hS hSl
        go_wp2_with (fail)
        go_roundw
        case rel => exact ⟨k + 1, by omega, by go_num, Lib.hid (by obtain ⟨L, h0, h1, h2⟩ := ho.out; exact ⟨L, h0, by omega, h2⟩), hbk, HB.out⟩
        case measure => simp [intOf]; omega
      · have hnp : (0 : Int) < (n : Int) := by omega
        obtain ⟨j, hj, hjn⟩ : ∃ j : Nat, pickI px n = (j : Int) ∧ j < n := by
          have := pickI_range (c := px) (n := (n : Int)) (by omega)
          exact ⟨(pickI px n).toNat, by omega, by omega⟩
        obtain ⟨A', c', hAc, _, hcm, hf⟩ := SlR.form hSl
        rw [← hnl] at hAc hf
        cases hAc
        obtain ⟨b2, o2, rfl, _, g2⟩ := hf j hjn
        obtain ⟨p1, p2, p3, p4⟩ := g2 j hjn
        have hro : okR (l.getD j default) = true := allOk_getD hok (by rw [← hnl]; exact hjn)
        obtain ⟨r, hr⟩ : ∃ r, r = l.getD j default := ⟨_, rfl⟩
        rw [← hr] at p1 p2 p3 p4 hro
        have hn100 : n ≤ 100 := by rw [hnl]; exact hl100
        have j0 : (0 : Int) ≤ (j : Int) := by omega
        have j1 : (j : Int) < (n : Int) := by omega
        obtain ⟨rl0, rlr, rr1, rlo0, rlh, rhi1⟩ := okR_parts hro
        obtain ⟨L, hL0, hL1, hL2⟩ := ho.out
        have OL := Lib.hid hL2; have HL1 := Lib.hid hL1
        clear hval hnl hok hl100 hmem hS hSl hf g2 hr hro hcm hn0 hL0 hL1 hL2 ho
        go_wp2_with (fail)
        refine (pickA_any px n HPX.out (by omega) (by omega) _).mono ?_
        rintro e w' ⟨rfl, rfl⟩
        rw [hj]
        have HJ := Lib.hid hj; clear hj
        go_wp2_with (fail)
        obtain ⟨B, hB⟩ : ∃ B, B = wr.heap.size := ⟨_, rfl⟩
        generalize hW3 : World.alloc wr _ = W3
        have b25 : Blk W3 B 36 #[.int .i64 r.l, .int .i64 r.r, .int .i64 r.lo, .int .i64 r.hi] := by rw [← hW3, hB]; exact Blk.new _ _ _
        have o3 : W3.ownsRow p 32 2 u22 L.length (cellsP L) := by rw [← hW3]; exact OL.out.alloc _
        have bk3 : Blk W3 (p + 1) 24 #[.slice Aqa na cqa, .slice Aqb nb cqb] := by rw [← hW3]; exact hbk.out.alloc _
        have bl3 : Below p w11 W3 := by rw [← hW3, HP.out]; exact HB.out.alloc HB.out.size _
        have ps3 : p ≤ W3.heap.size := by rw [HP.out]; exact (by rw [HP.out] at bl3; exact bl3.size)
        rw [← hB]
        have O3 := Lib.hid o3; have BK3 := Lib.hid bk3; have BL3 := Lib.hid bl3; have PS3 := Lib.hid ps3; have B25 := Lib.hid b25
        have y0 : W3.cell? ⟨B, 0, none⟩ = some (.int .i64 r.l) := b25.cell 0
        have y1 : W3.cell? ⟨B, 1, none⟩ = some (.int .i64 r.r) := b25.cell 1
        have y2 : W3.cell? ⟨B, 2, none⟩ = some (.int .i64 r.lo) := b25.cell 2
        have y3 : W3.cell? ⟨B, 3, none⟩ = some (.int .i64 r.hi) := b25.cell 3
        have ke1 : ∀ W0 : World, Calls Tryd.prog 11 #[.int .i64 px, .int .i64 2] W0 fun e w' => e = .returned (.int .i64 e1) ∧ W0 = w' := fun W0 => by rw [He1.out]; exact pickA_any _ _ HPX.out (by omega) (by omega) W0
        have ke2 : ∀ W0 : World, Calls Tryd.prog 11 #[.int .i64 py, .int .i64 2] W0 fun e w' => e = .returned (.int .i64 e2) ∧ W0 = w' := fun W0 => by rw [He2.out]; exact pickA_any _ _ HPY.out (by omega) (by omega) W0
        have KE1 := Lib.hid ke1; have KE2 := Lib.hid ke2
        clear ke1 ke2 b25 o3 bk3 bl3 ps3 hW3 hB p1 p2 p3 p4 hc OL hbk
        refine region_two_lit 44 (.cells #[.int .i64 (r.l - 1 + e1), .int .i64 (r.hi - 1 + e2), .int .i64 (r.r - 1 + e1), .int .i64 (r.lo - 1 + e2), .int .i64 (r.l - dd + e1 - 1), .int .i64 (r.lo - dd + e2 - 1)] 32) _ (.slice (some ⟨W3.heap.size, 0, none⟩) 3 3) (by kernel_rfl) (by as_aux_lemma => kernel_rfl) (by rfl) (by rfl) (by as_aux_lemma => kernel_rfl) ?_
        simp only [List.take_succ_cons, List.take_zero, List.drop_succ_cons, List.drop_zero]
        iterate 5 (go_big_quiet_step (fail))
        go_big_quiet_step (exact quiet_same (KE1.out _))
        iterate 5 (go_big_quiet_step (fail))
        go_big_quiet_step (exact quiet_same (KE2.out _))
        iterate 6 (go_big_quiet_step (fail))
        go_big_quiet_step (exact quiet_same (KE1.out _))
        iterate 5 (go_big_quiet_step (fail))
        go_big_quiet_step (exact quiet_same (KE2.out _))
        iterate 7 (go_big_quiet_step (fail))
        go_big_quiet_step (exact quiet_same (KE1.out _))
        iterate 7 (go_big_quiet_step (fail))
        go_big_quiet_step (exact quiet_same (KE2.out _))
        iterate 3 (go_big_quiet_step (fail))
        refine wpQuiet_nil ⟨?_, ?_, ?_⟩
        · generalize hW4 : World.alloc W3 _ = W4
          have z0 : W4.cell? ⟨B, 0, none⟩ = some (.int .i64 r.l) := by rw [← hW4]; exact (World.cell?_alloc_lt W3 _ _ (cell_lt y0)).trans y0
          have z1 : W4.cell? ⟨B, 1, none⟩ = some (.int .i64 r.r) := by rw [← hW4]; exact (World.cell?_alloc_lt W3 _ _ (cell_lt y1)).trans y1
          have z2 : W4.cell? ⟨B, 2, none⟩ = some (.int .i64 r.lo) := by rw [← hW4]; exact (World.cell?_alloc_lt W3 _ _ (cell_lt y2)).trans y2
          have z3 : W4.cell? ⟨B, 3, none⟩ = some (.int .i64 r.hi) := by rw [← hW4]; exact (World.cell?_alloc_lt W3 _ _ (cell_lt y3)).trans y3
          clear y0 y1 y2 y3 hW4
          iterate 5 (go_big_quiet_step (fail))
          go_big_quiet_step (exact quiet_same (KE1.out _))
          iterate 5 (go_big_quiet_step (fail))
          go_big_quiet_step (exact quiet_same (KE2.out _))
          iterate 6 (go_big_quiet_step (fail))
          go_big_quiet_step (exact quiet_same (KE1.out _))
          iterate 5 (go_big_quiet_step (fail))
          go_big_quiet_step (exact quiet_same (KE2.out _))
          iterate 7 (go_big_quiet_step (fail))
          go_big_quiet_step (exact quiet_same (KE1.out _))
          iterate 7 (go_big_quiet_step (fail))
          go_big_quiet_step (exact quiet_same (KE2.out _))
          iterate 3 (go_big_quiet_step (fail))
          exact wpQuiet_nil rfl
        · intro n
          go_simp
          rfl
        · intro _ hw'
          obtain ⟨nq, hw''⟩ := hw'
          subst hw''
          clear y0 y1 y2 y3
          simp only [Act.put, List.setIfInBounds_toArray, List.set_cons_succ, List.set_cons_zero]
          go_wp2_with (refine wpList_append_three rfl (.tmp 138) (.tmp 182) rfl p u22 L (r.l - 1 + e1, r.hi - 1 + e2) (r.r - 1 + e1, r.lo - 1 + e2) (r.l - dd + e1 - 1, r.lo - dd + e2 - 1) W3.heap.size _ rfl rfl (O3.out.alloc _) ((Blk.new W3 _ _).drewN nq) (Nat.le_trans HL1.out (by omega)) (Nat.le_trans PS3.out (by simp)) ?_; intro v' w5 ho5 hg5; have bel5 : Below p w11 w5 := (own_below (below_drewN (BL3.out.alloc PS3.out _) nq) (show World.ownsRow (World.drewN _ nq) p 32 2 u22 L.length (cellsP L) from O3.out.alloc _) (Nat.le_trans PS3.out (by simp)) hg5); have bk5 : Blk w5 (p + 1) 24 #[.slice Aqa na cqa, .slice Aqb nb cqb] := (Blk.grown ((BK3.out.alloc _).drewN nq) hg5 (fun h => own_ne O3.out BK3.out (by decide) h.symm)); have O5 := Lib.hid ho5; have BE5 := Lib.hid bel5; have BK5 := Lib.hid bk5; clear ho5 hg5 bel5 bk5)
          go_roundw
          case rel => exact ⟨k + 1, by omega, by go_num, Lib.hid ⟨_, by simp, by have := HL1.out; simp; omega, O5.out⟩, BK5, by have h := BE5.out; rw [HP.out] at h; exact h⟩
          case measure => simp [intOf]; omega
    · obtain rfl : k = 2 := by omega
      rw [show ((2 : Nat) : Int) = 2 from rfl]
      obtain ⟨L, hL0, hL1, hL2⟩ := ho.out
      have hS2 := HS.out.still HB.out
      have hSl2 := Sl.of_own hL2
      rcases hL2.2 with ⟨_, e⟩ | ⟨g1, cap, cur, rfl, _, _, hLc, hcapm, _, _⟩
      · omega
      obtain ⟨_, A3, c3, e3, _, _, h5⟩ := hSl2
      cases e3
      obtain ⟨b5, o5, e5, hgl, hcc⟩ := h5 hL0
      cases e5
      obtain ⟨N, hN⟩ : ∃ n, n = L.length := ⟨_, rfl⟩
      have hcell : ∀ k, k < N → wr.cell? ⟨g1, k * 2, none⟩ = some (.int .i64 (L.getD k (0, 0)).1) ∧ wr.cell? ⟨g1, k * 2 + 1, none⟩ = some (.int .i64 (L.getD k (0, 0)).2) := by
        intro k hk
        have h0 := hcc (k * 2 + 0) (.int .i64 (L.getD k (0, 0)).1) ((cellsP_get L k 0 (by omega) (by omega)).trans rfl)
        have h1 := hcc (k * 2 + 1) (.int .i64 (L.getD k (0, 0)).2) ((cellsP_get L k 1 (by omega) (by omega)).trans rfl)
        rw [Nat.zero_add] at h0 h1
        exact ⟨h0, h1⟩
      have hN8 : N ≤ 8 := by omega
      have hNp : 0 < N := by omega
      have hNc : N ≤ cap := by rw [hN]; exact hLc
      have hcap : cap ≤ 9223372036854775807 := by unfold maxLen at hcapm; omega
      have HCELL := Lib.hid hcell
      have HS2 := Lib.hid hS2
      rw [← hN]
      clear hcell hcc h5 hL0 hL1 hL2 hLc hcapm hN hS2 ho hbk HS OWN0 BLK0
      go_wp2_with (fail)
      generalize hW2 : wr = W2 at *
      clear hW2
      go_loopw [27, 28, 29, 187] (fun _ _ _ i w4 => ∃ k : Nat, k ≤ N ∧ i = .int .i64 (k : Int) ∧ Hid (St w w4 ps) ∧ Below W2.heap.size W2 w4) (fun _ _ _ i _ => N - (intOf i).toNat)
      case atStart => exact ⟨0, by omega, rfl, HS2, Below.refl _ _⟩
      case round =>
        obtain ⟨k, hk, rfl, hS4, hb4⟩ := hrel
        by_cases hlt2 : k < N
        · obtain ⟨q0, q1⟩ := HCELL.out k hlt2
          rw [← hb4.cell (p := ⟨g1, _, none⟩) hgl] at q0 q1
          obtain ⟨X, hX⟩ : ∃ X, X = (L.getD k (0, 0)).1 := ⟨_, rfl⟩
          obtain ⟨Y, hY⟩ : ∃ Y, Y = (L.getD k (0, 0)).2 := ⟨_, rfl⟩
          rw [← hX] at q0
          rw [← hY] at q1
          have i0 : (0 : Int) ≤ (k : Int) := by omega
          have i1 : (k : Int) < (N : Int) := by omega
          have HB4 := Lib.hid hb4
          clear hX hY hb4
          go_wp2_with (fail)
          obtain ⟨B, hB⟩ : ∃ B, B = wr.heap.size := ⟨_, rfl⟩
          generalize hW3 : World.alloc wr _ = W3
          have hPl : Pl w W2 ps B X Y W3 := ⟨by rw [← hW3]; exact hS4.out.still ((Below.refl _ _).alloc (Nat.le_refl _) _), by rw [← hW3]; exact HB4.out.alloc HB4.out.size _, by rw [← hW3, hB]; exact (Blk.new _ _ _).cell 0, by rw [← hW3, hB]; exact (Blk.new _ _ _).cell 1⟩
          rw [← hB]
          obtain ⟨one, hone⟩ : ∃ t, hasL a X Y = t := ⟨_, rfl⟩
          obtain ⟨two, htwo⟩ : ∃ t, hasL b X Y = t := ⟨_, rfl⟩
          obtain ⟨nr, hnr⟩ : ∃ t, a.any (nearR X Y dd) = t := ⟨_, rfl⟩
          obtain ⟨nr0, hnr0⟩ : ∃ t, a.any (nearR X Y 0) = t := ⟨_, rfl⟩
          have Hone := Lib.hid hone; have Htwo := Lib.hid htwo; have Hnr := Lib.hid hnr; have Hnr0 := Lib.hid hnr0
          clear hone htwo hnr hnr0 hW3 hB q0 q1
          refine (has_cls hPl 5 Ia.out Hone.out).mono ?_
          rintro e w5 ⟨rfl, hPl5⟩
          have HPL := Lib.hid hPl5
          have z0 := hPl5.c0
          have z1 := hPl5.c1
          clear hPl hPl5
          go_wp2_with (fail)
          refine (has_cls HPL.out 4 Ib.out Htwo.out).mono ?_
          rintro e w6 ⟨rfl, hPl6⟩
          clear HPL z0 z1
          have HPL := Lib.hid hPl6
          clear hPl6
          go_wp2_with (fail)
          simp only [List.append_eq, List.cons_append, List.nil_append]
          refine region_class 66 (D := Pl w W2 ps B X Y) (by kernel_rfl) (by as_aux_lemma => kernel_rfl) (HPL.out.next (below_drewN (Below.refl _ _) 1)) ?_
          simp only [List.take_succ_cons, List.take_zero, List.drop_succ_cons, List.drop_zero]
          cases one
          · cases two
            · as_aux_lemma =>
              refine wpP_op rfl (v4) (cls_pure (fun w' => rfl)) ?_
              simp only [Act.put, List.setIfInBounds_toArray, List.set_cons_succ, List.set_cons_zero]
              refine wpP_op rfl (.pointer (some ⟨B, 0, none⟩)) (cls_pure (fun w' => rfl)) ?_
              simp only [Act.put, List.setIfInBounds_toArray, List.set_cons_succ, List.set_cons_zero]
              refine wpP_op rfl (.int .i64 X) (cls_load (fun w' hw' => ?_)) ?_
              · have c0 := hw'.c0
                go_simp
              simp only [Act.put, List.setIfInBounds_toArray, List.set_cons_succ, List.set_cons_zero]
              refine wpP_op rfl (.pointer (some ⟨B, 1, none⟩)) (cls_pure (fun w' => rfl)) ?_
              simp only [Act.put, List.setIfInBounds_toArray, List.set_cons_succ, List.set_cons_zero]
              refine wpP_op rfl (.int .i64 Y) (cls_load (fun w' hw' => ?_)) ?_
              · have c0 := hw'.c1
                go_simp
              simp only [Act.put, List.setIfInBounds_toArray, List.set_cons_succ, List.set_cons_zero]
              refine wpP_op rfl (.bool false) (cls_pure (fun w' => rfl)) ?_
              simp only [Act.put, List.setIfInBounds_toArray, List.set_cons_succ, List.set_cons_zero]
              refine wpP_op rfl (.bool false) (cls_pure (fun w' => rfl)) ?_
              simp only [Act.put, List.setIfInBounds_toArray, List.set_cons_succ, List.set_cons_zero]
              refine wpP_want (by rfl) (.bool false) (cls_pure (fun w' => rfl)) ?_
              simp only [Act.put, List.setIfInBounds_toArray, List.set_cons_succ, List.set_cons_zero]
              refine wpP_op rfl (.bool false) (cls_pure (fun w' => rfl)) ?_
              simp only [Act.put, List.setIfInBounds_toArray, List.set_cons_succ, List.set_cons_zero]
              refine wpP_op rfl (.bool true) (cls_call (f := 18) (args := #[v4, .int .i64 X, .int .i64 Y, .bool false]) (fun w' => ?_) (fun w' hw' => sees_cls hw' 3 Iu.out (by have h := FF.out.su X Y; rw [Hone.out, Htwo.out] at h; exact h))) ?_
              · go_simp
              simp only [Act.put, List.setIfInBounds_toArray, List.set_cons_succ, List.set_cons_zero]
              refine wpP_op rfl (.bool false) (cls_pure (fun w' => rfl)) ?_
              simp only [Act.put, List.setIfInBounds_toArray, List.set_cons_succ, List.set_cons_zero]
              refine wpP_op rfl (.bool false) (cls_pure (fun w' => rfl)) ?_
              simp only [Act.put, List.setIfInBounds_toArray, List.set_cons_succ, List.set_cons_zero]
              refine wpP_want (by rfl) (v5) (cls_pure (fun w' => rfl)) ?_
              simp only [Act.put, List.setIfInBounds_toArray, List.set_cons_succ, List.set_cons_zero]
              refine wpP_want (by rfl) (.pointer (some ⟨B, 0, none⟩)) (cls_pure (fun w' => rfl)) ?_
              simp only [Act.put, List.setIfInBounds_toArray, List.set_cons_succ, List.set_cons_zero]
              refine wpP_want (by rfl) (.int .i64 X) (cls_load (fun w' hw' => ?_)) ?_
              · have c0 := hw'.c0
                go_simp
              simp only [Act.put, List.setIfInBounds_toArray, List.set_cons_succ, List.set_cons_zero]
              refine wpP_want (by rfl) (.pointer (some ⟨B, 1, none⟩)) (cls_pure (fun w' => rfl)) ?_
              simp only [Act.put, List.setIfInBounds_toArray, List.set_cons_succ, List.set_cons_zero]
              refine wpP_want (by rfl) (.int .i64 Y) (cls_load (fun w' hw' => ?_)) ?_
              · have c0 := hw'.c1
                go_simp
              simp only [Act.put, List.setIfInBounds_toArray, List.set_cons_succ, List.set_cons_zero]
              refine wpP_want (by rfl) (.bool false) (cls_pure (fun w' => rfl)) ?_
              simp only [Act.put, List.setIfInBounds_toArray, List.set_cons_succ, List.set_cons_zero]
              refine wpP_want (by rfl) (.bool false) (cls_pure (fun w' => rfl)) ?_
              simp only [Act.put, List.setIfInBounds_toArray, List.set_cons_succ, List.set_cons_zero]
              refine wpP_pass (by rfl) (by decide) ?_
              simp only [Act.put, List.setIfInBounds_toArray, List.set_cons_succ, List.set_cons_zero]
              refine wpP_want (by rfl) (.bool false) (cls_pure (fun w' => rfl)) ?_
              simp only [Act.put, List.setIfInBounds_toArray, List.set_cons_succ, List.set_cons_zero]
              refine wpP_want (by rfl) (.bool true) (cls_call (f := 18) (args := #[v5, .int .i64 X, .int .i64 Y, .bool false]) (fun w' => ?_) (fun w' hw' => sees_cls hw' 2 Ic.out (by have h := FF.out.sc X Y; rw [Hone.out, Htwo.out] at h; exact h))) ?_
              · go_simp
              simp only [Act.put, List.setIfInBounds_toArray, List.set_cons_succ, List.set_cons_zero]
              refine wpP_want (by rfl) (.bool false) (cls_pure (fun w' => rfl)) ?_
              simp only [Act.put, List.setIfInBounds_toArray, List.set_cons_succ, List.set_cons_zero]
              refine wpP_op rfl (.bool false) (cls_pure (fun w' => rfl)) ?_
              simp only [Act.put, List.setIfInBounds_toArray, List.set_cons_succ, List.set_cons_zero]
              refine wpP_op rfl (.bool false) (cls_pure (fun w' => rfl)) ?_
              simp only [Act.put, List.setIfInBounds_toArray, List.set_cons_succ, List.set_cons_zero]
              refine wpP_want (by rfl) (v6) (cls_pure (fun w' => rfl)) ?_
              simp only [Act.put, List.setIfInBounds_toArray, List.set_cons_succ, List.set_cons_zero]
              refine wpP_want (by rfl) (.pointer (some ⟨B, 0, none⟩)) (cls_pure (fun w' => rfl)) ?_
              simp only [Act.put, List.setIfInBounds_toArray, List.set_cons_succ, List.set_cons_zero]
              refine wpP_want (by rfl) (.int .i64 X) (cls_load (fun w' hw' => ?_)) ?_
              · have c0 := hw'.c0
                go_simp
              simp only [Act.put, List.setIfInBounds_toArray, List.set_cons_succ, List.set_cons_zero]
              refine wpP_want (by rfl) (.pointer (some ⟨B, 1, none⟩)) (cls_pure (fun w' => rfl)) ?_
              simp only [Act.put, List.setIfInBounds_toArray, List.set_cons_succ, List.set_cons_zero]
              refine wpP_want (by rfl) (.int .i64 Y) (cls_load (fun w' hw' => ?_)) ?_
              · have c0 := hw'.c1
                go_simp
              simp only [Act.put, List.setIfInBounds_toArray, List.set_cons_succ, List.set_cons_zero]
              refine wpP_want (by rfl) (.bool false) (cls_pure (fun w' => rfl)) ?_
              simp only [Act.put, List.setIfInBounds_toArray, List.set_cons_succ, List.set_cons_zero]
              refine wpP_want (by rfl) (.bool false) (cls_pure (fun w' => rfl)) ?_
              simp only [Act.put, List.setIfInBounds_toArray, List.set_cons_succ, List.set_cons_zero]
              refine wpP_pass (by rfl) (by decide) ?_
              simp only [Act.put, List.setIfInBounds_toArray, List.set_cons_succ, List.set_cons_zero]
              refine wpP_pass (by rfl) (by decide) ?_
              simp only [Act.put, List.setIfInBounds_toArray, List.set_cons_succ, List.set_cons_zero]
              refine wpP_want (by rfl) (.bool false) (cls_pure (fun w' => rfl)) ?_
              simp only [Act.put, List.setIfInBounds_toArray, List.set_cons_succ, List.set_cons_zero]
              refine wpP_want (by rfl) (.bool true) (cls_call (f := 18) (args := #[v6, .int .i64 X, .int .i64 Y, .bool false]) (fun w' => ?_) (fun w' hw' => sees_cls hw' 1 Im.out (by have h := FF.out.sm X Y; rw [Hone.out, Htwo.out] at h; exact h))) ?_
              · go_simp
              simp only [Act.put, List.setIfInBounds_toArray, List.set_cons_succ, List.set_cons_zero]
              refine wpP_want (by rfl) (.bool false) (cls_pure (fun w' => rfl)) ?_
              simp only [Act.put, List.setIfInBounds_toArray, List.set_cons_succ, List.set_cons_zero]
              refine wpP_op rfl (.bool false) (cls_pure (fun w' => rfl)) ?_
              simp only [Act.put, List.setIfInBounds_toArray, List.set_cons_succ, List.set_cons_zero]
              refine wpP_op rfl (.bool false) (cls_pure (fun w' => rfl)) ?_
              simp only [Act.put, List.setIfInBounds_toArray, List.set_cons_succ, List.set_cons_zero]
              refine wpP_want (by rfl) (v7) (cls_pure (fun w' => rfl)) ?_
              simp only [Act.put, List.setIfInBounds_toArray, List.set_cons_succ, List.set_cons_zero]
              refine wpP_want (by rfl) (.pointer (some ⟨B, 0, none⟩)) (cls_pure (fun w' => rfl)) ?_
              simp only [Act.put, List.setIfInBounds_toArray, List.set_cons_succ, List.set_cons_zero]
              refine wpP_want (by rfl) (.int .i64 X) (cls_load (fun w' hw' => ?_)) ?_
              · have c0 := hw'.c0
                go_simp
              simp only [Act.put, List.setIfInBounds_toArray, List.set_cons_succ, List.set_cons_zero]
              refine wpP_want (by rfl) (.pointer (some ⟨B, 1, none⟩)) (cls_pure (fun w' => rfl)) ?_
              simp only [Act.put, List.setIfInBounds_toArray, List.set_cons_succ, List.set_cons_zero]
              refine wpP_want (by rfl) (.int .i64 Y) (cls_load (fun w' hw' => ?_)) ?_
              · have c0 := hw'.c1
                go_simp
              simp only [Act.put, List.setIfInBounds_toArray, List.set_cons_succ, List.set_cons_zero]
              refine wpP_want (by rfl) (.slice Aqa na cqa) (cls_pure (fun w' => rfl)) ?_
              simp only [Act.put, List.setIfInBounds_toArray, List.set_cons_succ, List.set_cons_zero]
              refine wpP_want (by rfl) (.pointer (some ⟨B, 0, none⟩)) (cls_pure (fun w' => rfl)) ?_
              simp only [Act.put, List.setIfInBounds_toArray, List.set_cons_succ, List.set_cons_zero]
              refine wpP_want (by rfl) (.int .i64 X) (cls_load (fun w' hw' => ?_)) ?_
              · have c0 := hw'.c0
                go_simp
              simp only [Act.put, List.setIfInBounds_toArray, List.set_cons_succ, List.set_cons_zero]
              refine wpP_want (by rfl) (.pointer (some ⟨B, 1, none⟩)) (cls_pure (fun w' => rfl)) ?_
              simp only [Act.put, List.setIfInBounds_toArray, List.set_cons_succ, List.set_cons_zero]
              refine wpP_want (by rfl) (.int .i64 Y) (cls_load (fun w' hw' => ?_)) ?_
              · have c0 := hw'.c1
                go_simp
              simp only [Act.put, List.setIfInBounds_toArray, List.set_cons_succ, List.set_cons_zero]
              refine wpP_want (by rfl) (.int .i64 dd) (cls_pure (fun w' => rfl)) ?_
              simp only [Act.put, List.setIfInBounds_toArray, List.set_cons_succ, List.set_cons_zero]
              refine wpP_want (by rfl) (.bool nr) (cls_call (f := 19) (args := #[.slice Aqa na cqa, .int .i64 X, .int .i64 Y, .int .i64 dd]) (fun w' => ?_) (fun w' hw' => near_cls hw' 5 Ia.out FF.out.oa d0 d64 Hnr.out)) ?_
              · go_simp
              simp only [Act.put, List.setIfInBounds_toArray, List.set_cons_succ, List.set_cons_zero]
              refine wpP_want (by rfl) (.bool true) (cls_call (f := 18) (args := #[v7, .int .i64 X, .int .i64 Y, .bool nr]) (fun w' => ?_) (fun w' hw' => sees_cls hw' 0 Ig.out (by have h := FF.out.sg X Y; rw [Hnr.out] at h; exact h))) ?_
              · go_simp
              simp only [Act.put, List.setIfInBounds_toArray, List.set_cons_succ, List.set_cons_zero]
              refine wpP_want (by rfl) (.bool false) (cls_pure (fun w' => rfl)) ?_
              simp only [Act.put, List.setIfInBounds_toArray, List.set_cons_succ, List.set_cons_zero]
              refine wpP_op rfl (.bool false) (cls_pure (fun w' => rfl)) ?_
              simp only [Act.put, List.setIfInBounds_toArray, List.set_cons_succ, List.set_cons_zero]
              refine wpP_op rfl (.bool false) (cls_pure (fun w' => rfl)) ?_
              simp only [Act.put, List.setIfInBounds_toArray, List.set_cons_succ, List.set_cons_zero]
              refine wpP_want (by rfl) (.slice Aqa na cqa) (cls_pure (fun w' => rfl)) ?_
              simp only [Act.put, List.setIfInBounds_toArray, List.set_cons_succ, List.set_cons_zero]
              refine wpP_want (by rfl) (.pointer (some ⟨B, 0, none⟩)) (cls_pure (fun w' => rfl)) ?_
              simp only [Act.put, List.setIfInBounds_toArray, List.set_cons_succ, List.set_cons_zero]
              refine wpP_want (by rfl) (.int .i64 X) (cls_load (fun w' hw' => ?_)) ?_
              · have c0 := hw'.c0
                go_simp
              simp only [Act.put, List.setIfInBounds_toArray, List.set_cons_succ, List.set_cons_zero]
              refine wpP_want (by rfl) (.pointer (some ⟨B, 1, none⟩)) (cls_pure (fun w' => rfl)) ?_
              simp only [Act.put, List.setIfInBounds_toArray, List.set_cons_succ, List.set_cons_zero]
              refine wpP_want (by rfl) (.int .i64 Y) (cls_load (fun w' hw' => ?_)) ?_
              · have c0 := hw'.c1
                go_simp
              simp only [Act.put, List.setIfInBounds_toArray, List.set_cons_succ, List.set_cons_zero]
              refine wpP_want (by rfl) (.slice Aqa na cqa) (cls_pure (fun w' => rfl)) ?_
              simp only [Act.put, List.setIfInBounds_toArray, List.set_cons_succ, List.set_cons_zero]
              refine wpP_want (by rfl) (.pointer (some ⟨B, 0, none⟩)) (cls_pure (fun w' => rfl)) ?_
              simp only [Act.put, List.setIfInBounds_toArray, List.set_cons_succ, List.set_cons_zero]
              refine wpP_want (by rfl) (.int .i64 X) (cls_load (fun w' hw' => ?_)) ?_
              · have c0 := hw'.c0
                go_simp
              simp only [Act.put, List.setIfInBounds_toArray, List.set_cons_succ, List.set_cons_zero]
              refine wpP_want (by rfl) (.pointer (some ⟨B, 1, none⟩)) (cls_pure (fun w' => rfl)) ?_
              simp only [Act.put, List.setIfInBounds_toArray, List.set_cons_succ, List.set_cons_zero]
              refine wpP_want (by rfl) (.int .i64 Y) (cls_load (fun w' hw' => ?_)) ?_
              · have c0 := hw'.c1
                go_simp
              simp only [Act.put, List.setIfInBounds_toArray, List.set_cons_succ, List.set_cons_zero]
              refine wpP_want (by rfl) (.bool nr0) (cls_call (f := 19) (args := #[.slice Aqa na cqa, .int .i64 X, .int .i64 Y, .int .i64 0]) (fun w' => ?_) (fun w' hw' => near_cls hw' 5 Ia.out FF.out.oa (by omega) (by omega) Hnr0.out)) ?_
              · go_simp
              simp only [Act.put, List.setIfInBounds_toArray, List.set_cons_succ, List.set_cons_zero]
              refine wpP_nil ?_
              intro w6 hw6
              have HP6 := Lib.hid hw6; clear hw6
              go_wp2_with (go_at_call 18; refine (sees_cls HP6.out 5 Ia.out (by have h := FF.out.sa X Y; rw [Hnr0.out] at h; exact h)).mono ?_; rintro e w7 ⟨rfl, hw7⟩; have HP7 := Lib.hid hw7; clear hw7)
              go_roundw
              case rel => exact ⟨k + 1, by omega, by go_num, Lib.hid HP7.out.st, HP7.out.bel⟩
              case measure => simp [intOf]; omega
            · as_aux_lemma =>
              refine wpP_op rfl (v4) (cls_pure (fun w' => rfl)) ?_
              simp only [Act.put, List.setIfInBounds_toArray, List.set_cons_succ, List.set_cons_zero]
              refine wpP_op rfl (.pointer (some ⟨B, 0, none⟩)) (cls_pure (fun w' => rfl)) ?_
              simp only [Act.put, List.setIfInBounds_toArray, List.set_cons_succ, List.set_cons_zero]
              refine wpP_op rfl (.int .i64 X) (cls_load (fun w' hw' => ?_)) ?_
              · have c0 := hw'.c0
                go_simp
              simp only [Act.put, List.setIfInBounds_toArray, List.set_cons_succ, List.set_cons_zero]
              refine wpP_op rfl (.pointer (some ⟨B, 1, none⟩)) (cls_pure (fun w' => rfl)) ?_
              simp only [Act.put, List.setIfInBounds_toArray, List.set_cons_succ, List.set_cons_zero]
              refine wpP_op rfl (.int .i64 Y) (cls_load (fun w' hw' => ?_)) ?_
              · have c0 := hw'.c1
                go_simp
              simp only [Act.put, List.setIfInBounds_toArray, List.set_cons_succ, List.set_cons_zero]
              refine wpP_op rfl (.bool false) (cls_pure (fun w' => rfl)) ?_
              simp only [Act.put, List.setIfInBounds_toArray, List.set_cons_succ, List.set_cons_zero]
              refine wpP_op rfl (.bool false) (cls_pure (fun w' => rfl)) ?_
              simp only [Act.put, List.setIfInBounds_toArray, List.set_cons_succ, List.set_cons_zero]
              refine wpP_want (by rfl) (.bool true) (cls_pure (fun w' => rfl)) ?_
              simp only [Act.put, List.setIfInBounds_toArray, List.set_cons_succ, List.set_cons_zero]
              refine wpP_op rfl (.bool true) (cls_pure (fun w' => rfl)) ?_
              simp only [Act.put, List.setIfInBounds_toArray, List.set_cons_succ, List.set_cons_zero]
              refine wpP_op rfl (.bool true) (cls_call (f := 18) (args := #[v4, .int .i64 X, .int .i64 Y, .bool true]) (fun w' => ?_) (fun w' hw' => sees_cls hw' 3 Iu.out (by have h := FF.out.su X Y; rw [Hone.out, Htwo.out] at h; exact h))) ?_
              · go_simp
              simp only [Act.put, List.setIfInBounds_toArray, List.set_cons_succ, List.set_cons_zero]
              refine wpP_op rfl (.bool false) (cls_pure (fun w' => rfl)) ?_
              simp only [Act.put, List.setIfInBounds_toArray, List.set_cons_succ, List.set_cons_zero]
              refine wpP_op rfl (.bool false) (cls_pure (fun w' => rfl)) ?_
              simp only [Act.put, List.setIfInBounds_toArray, List.set_cons_succ, List.set_cons_zero]
              refine wpP_want (by rfl) (v5) (cls_pure (fun w' => rfl)) ?_
              simp only [Act.put, List.setIfInBounds_toArray, List.set_cons_succ, List.set_cons_zero]
              refine wpP_want (by rfl) (.pointer (some ⟨B, 0, none⟩)) (cls_pure (fun w' => rfl)) ?_
              simp only [Act.put, List.setIfInBounds_toArray, List.set_cons_succ, List.set_cons_zero]
              refine wpP_want (by rfl) (.int .i64 X) (cls_load (fun w' hw' => ?_)) ?_
              · have c0 := hw'.c0
                go_simp
              simp only [Act.put, List.setIfInBounds_toArray, List.set_cons_succ, List.set_cons_zero]
              refine wpP_want (by rfl) (.pointer (some ⟨B, 1, none⟩)) (cls_pure (fun w' => rfl)) ?_
              simp only [Act.put, List.setIfInBounds_toArray, List.set_cons_succ, List.set_cons_zero]
              refine wpP_want (by rfl) (.int .i64 Y) (cls_load (fun w' hw' => ?_)) ?_
              · have c0 := hw'.c1
                go_simp
              simp only [Act.put, List.setIfInBounds_toArray, List.set_cons_succ, List.set_cons_zero]
              refine wpP_want (by rfl) (.bool false) (cls_pure (fun w' => rfl)) ?_
              simp only [Act.put, List.setIfInBounds_toArray, List.set_cons_succ, List.set_cons_zero]
              refine wpP_want (by rfl) (.bool false) (cls_pure (fun w' => rfl)) ?_
              simp only [Act.put, List.setIfInBounds_toArray, List.set_cons_succ, List.set_cons_zero]
              refine wpP_pass (by rfl) (by decide) ?_
              simp only [Act.put, List.setIfInBounds_toArray, List.set_cons_succ, List.set_cons_zero]
              refine wpP_want (by rfl) (.bool false) (cls_pure (fun w' => rfl)) ?_
              simp only [Act.put, List.setIfInBounds_toArray, List.set_cons_succ, List.set_cons_zero]
              refine wpP_want (by rfl) (.bool true) (cls_call (f := 18) (args := #[v5, .int .i64 X, .int .i64 Y, .bool false]) (fun w' => ?_) (fun w' hw' => sees_cls hw' 2 Ic.out (by have h := FF.out.sc X Y; rw [Hone.out, Htwo.out] at h; exact h))) ?_
              · go_simp
              simp only [Act.put, List.setIfInBounds_toArray, List.set_cons_succ, List.set_cons_zero]
              refine wpP_want (by rfl) (.bool false) (cls_pure (fun w' => rfl)) ?_
              simp only [Act.put, List.setIfInBounds_toArray, List.set_cons_succ, List.set_cons_zero]
              refine wpP_op rfl (.bool false) (cls_pure (fun w' => rfl)) ?_
              simp only [Act.put, List.setIfInBounds_toArray, List.set_cons_succ, List.set_cons_zero]
              refine wpP_op rfl (.bool false) (cls_pure (fun w' => rfl)) ?_
              simp only [Act.put, List.setIfInBounds_toArray, List.set_cons_succ, List.set_cons_zero]
              refine wpP_want (by rfl) (v6) (cls_pure (fun w' => rfl)) ?_
              simp only [Act.put, List.setIfInBounds_toArray, List.set_cons_succ, List.set_cons_zero]
              refine wpP_want (by rfl) (.pointer (some ⟨B, 0, none⟩)) (cls_pure (fun w' => rfl)) ?_
              simp only [Act.put, List.setIfInBounds_toArray, List.set_cons_succ, List.set_cons_zero]
              refine wpP_want (by rfl) (.int .i64 X) (cls_load (fun w' hw' => ?_)) ?_
              · have c0 := hw'.c0
                go_simp
              simp only [Act.put, List.setIfInBounds_toArray, List.set_cons_succ, List.set_cons_zero]
              refine wpP_want (by rfl) (.pointer (some ⟨B, 1, none⟩)) (cls_pure (fun w' => rfl)) ?_
              simp only [Act.put, List.setIfInBounds_toArray, List.set_cons_succ, List.set_cons_zero]
              refine wpP_want (by rfl) (.int .i64 Y) (cls_load (fun w' hw' => ?_)) ?_
              · have c0 := hw'.c1
                go_simp
              simp only [Act.put, List.setIfInBounds_toArray, List.set_cons_succ, List.set_cons_zero]
              refine wpP_want (by rfl) (.bool false) (cls_pure (fun w' => rfl)) ?_
              simp only [Act.put, List.setIfInBounds_toArray, List.set_cons_succ, List.set_cons_zero]
              refine wpP_want (by rfl) (.bool false) (cls_pure (fun w' => rfl)) ?_
              simp only [Act.put, List.setIfInBounds_toArray, List.set_cons_succ, List.set_cons_zero]
              refine wpP_pass (by rfl) (by decide) ?_
              simp only [Act.put, List.setIfInBounds_toArray, List.set_cons_succ, List.set_cons_zero]
              refine wpP_pass (by rfl) (by decide) ?_
              simp only [Act.put, List.setIfInBounds_toArray, List.set_cons_succ, List.set_cons_zero]
              refine wpP_want (by rfl) (.bool false) (cls_pure (fun w' => rfl)) ?_
              simp only [Act.put, List.setIfInBounds_toArray, List.set_cons_succ, List.set_cons_zero]
              refine wpP_want (by rfl) (.bool true) (cls_call (f := 18) (args := #[v6, .int .i64 X, .int .i64 Y, .bool false]) (fun w' => ?_) (fun w' hw' => sees_cls hw' 1 Im.out (by have h := FF.out.sm X Y; rw [Hone.out, Htwo.out] at h; exact h))) ?_
              · go_simp
              simp only [Act.put, List.setIfInBounds_toArray, List.set_cons_succ, List.set_cons_zero]
              refine wpP_want (by rfl) (.bool false) (cls_pure (fun w' => rfl)) ?_
              simp only [Act.put, List.setIfInBounds_toArray, List.set_cons_succ, List.set_cons_zero]
              refine wpP_op rfl (.bool false) (cls_pure (fun w' => rfl)) ?_
              simp only [Act.put, List.setIfInBounds_toArray, List.set_cons_succ, List.set_cons_zero]
              refine wpP_op rfl (.bool false) (cls_pure (fun w' => rfl)) ?_
              simp only [Act.put, List.setIfInBounds_toArray, List.set_cons_succ, List.set_cons_zero]
              refine wpP_want (by rfl) (v7) (cls_pure (fun w' => rfl)) ?_
              simp only [Act.put, List.setIfInBounds_toArray, List.set_cons_succ, List.set_cons_zero]
              refine wpP_want (by rfl) (.pointer (some ⟨B, 0, none⟩)) (cls_pure (fun w' => rfl)) ?_
              simp only [Act.put, List.setIfInBounds_toArray, List.set_cons_succ, List.set_cons_zero]
              refine wpP_want (by rfl) (.int .i64 X) (cls_load (fun w' hw' => ?_)) ?_
              · have c0 := hw'.c0
                go_simp
              simp only [Act.put, List.setIfInBounds_toArray, List.set_cons_succ, List.set_cons_zero]
              refine wpP_want (by rfl) (.pointer (some ⟨B, 1, none⟩)) (cls_pure (fun w' => rfl)) ?_
              simp only [Act.put, List.setIfInBounds_toArray, List.set_cons_succ, List.set_cons_zero]
              refine wpP_want (by rfl) (.int .i64 Y) (cls_load (fun w' hw' => ?_)) ?_
              · have c0 := hw'.c1
                go_simp
              simp only [Act.put, List.setIfInBounds_toArray, List.set_cons_succ, List.set_cons_zero]
              refine wpP_want (by rfl) (.slice Aqa na cqa) (cls_pure (fun w' => rfl)) ?_
              simp only [Act.put, List.setIfInBounds_toArray, List.set_cons_succ, List.set_cons_zero]
              refine wpP_want (by rfl) (.pointer (some ⟨B, 0, none⟩)) (cls_pure (fun w' => rfl)) ?_
              simp only [Act.put, List.setIfInBounds_toArray, List.set_cons_succ, List.set_cons_zero]
              refine wpP_want (by rfl) (.int .i64 X) (cls_load (fun w' hw' => ?_)) ?_
              · have c0 := hw'.c0
                go_simp
              simp only [Act.put, List.setIfInBounds_toArray, List.set_cons_succ, List.set_cons_zero]
              refine wpP_want (by rfl) (.pointer (some ⟨B, 1, none⟩)) (cls_pure (fun w' => rfl)) ?_
              simp only [Act.put, List.setIfInBounds_toArray, List.set_cons_succ, List.set_cons_zero]
              refine wpP_want (by rfl) (.int .i64 Y) (cls_load (fun w' hw' => ?_)) ?_
              · have c0 := hw'.c1
                go_simp
              simp only [Act.put, List.setIfInBounds_toArray, List.set_cons_succ, List.set_cons_zero]
              refine wpP_want (by rfl) (.int .i64 dd) (cls_pure (fun w' => rfl)) ?_
              simp only [Act.put, List.setIfInBounds_toArray, List.set_cons_succ, List.set_cons_zero]
              refine wpP_want (by rfl) (.bool nr) (cls_call (f := 19) (args := #[.slice Aqa na cqa, .int .i64 X, .int .i64 Y, .int .i64 dd]) (fun w' => ?_) (fun w' hw' => near_cls hw' 5 Ia.out FF.out.oa d0 d64 Hnr.out)) ?_
              · go_simp
              simp only [Act.put, List.setIfInBounds_toArray, List.set_cons_succ, List.set_cons_zero]
              refine wpP_want (by rfl) (.bool true) (cls_call (f := 18) (args := #[v7, .int .i64 X, .int .i64 Y, .bool nr]) (fun w' => ?_) (fun w' hw' => sees_cls hw' 0 Ig.out (by have h := FF.out.sg X Y; rw [Hnr.out] at h; exact h))) ?_
              · go_simp
              simp only [Act.put, List.setIfInBounds_toArray, List.set_cons_succ, List.set_cons_zero]
              refine wpP_want (by rfl) (.bool false) (cls_pure (fun w' => rfl)) ?_
              simp only [Act.put, List.setIfInBounds_toArray, List.set_cons_succ, List.set_cons_zero]
              refine wpP_op rfl (.bool false) (cls_pure (fun w' => rfl)) ?_
              simp only [Act.put, List.setIfInBounds_toArray, List.set_cons_succ, List.set_cons_zero]
              refine wpP_op rfl (.bool false) (cls_pure (fun w' => rfl)) ?_
              simp only [Act.put, List.setIfInBounds_toArray, List.set_cons_succ, List.set_cons_zero]
              refine wpP_want (by rfl) (.slice Aqa na cqa) (cls_pure (fun w' => rfl)) ?_
              simp only [Act.put, List.setIfInBounds_toArray, List.set_cons_succ, List.set_cons_zero]
              refine wpP_want (by rfl) (.pointer (some ⟨B, 0, none⟩)) (cls_pure (fun w' => rfl)) ?_
              simp only [Act.put, List.setIfInBounds_toArray, List.set_cons_succ, List.set_cons_zero]
              refine wpP_want (by rfl) (.int .i64 X) (cls_load (fun w' hw' => ?_)) ?_
              · have c0 := hw'.c0
                go_simp
              simp only [Act.put, List.setIfInBounds_toArray, List.set_cons_succ, List.set_cons_zero]
              refine wpP_want (by rfl) (.pointer (some ⟨B, 1, none⟩)) (cls_pure (fun w' => rfl)) ?_
              simp only [Act.put, List.setIfInBounds_toArray, List.set_cons_succ, List.set_cons_zero]
              refine wpP_want (by rfl) (.int .i64 Y) (cls_load (fun w' hw' => ?_)) ?_
              · have c0 := hw'.c1
                go_simp
              simp only [Act.put, List.setIfInBounds_toArray, List.set_cons_succ, List.set_cons_zero]
              refine wpP_want (by rfl) (.slice Aqa na cqa) (cls_pure (fun w' => rfl)) ?_
              simp only [Act.put, List.setIfInBounds_toArray, List.set_cons_succ, List.set_cons_zero]
              refine wpP_want (by rfl) (.pointer (some ⟨B, 0, none⟩)) (cls_pure (fun w' => rfl)) ?_
              simp only [Act.put, List.setIfInBounds_toArray, List.set_cons_succ, List.set_cons_zero]
              refine wpP_want (by rfl) (.int .i64 X) (cls_load (fun w' hw' => ?_)) ?_
              · have c0 := hw'.c0
                go_simp
              simp only [Act.put, List.setIfInBounds_toArray, List.set_cons_succ, List.set_cons_zero]
              refine wpP_want (by rfl) (.pointer (some ⟨B, 1, none⟩)) (cls_pure (fun w' => rfl)) ?_
              simp only [Act.put, List.setIfInBounds_toArray, List.set_cons_succ, List.set_cons_zero]
              refine wpP_want (by rfl) (.int .i64 Y) (cls_load (fun w' hw' => ?_)) ?_
              · have c0 := hw'.c1
                go_simp
              simp only [Act.put, List.setIfInBounds_toArray, List.set_cons_succ, List.set_cons_zero]
              refine wpP_want (by rfl) (.bool nr0) (cls_call (f := 19) (args := #[.slice Aqa na cqa, .int .i64 X, .int .i64 Y, .int .i64 0]) (fun w' => ?_) (fun w' hw' => near_cls hw' 5 Ia.out FF.out.oa (by omega) (by omega) Hnr0.out)) ?_
              · go_simp
              simp only [Act.put, List.setIfInBounds_toArray, List.set_cons_succ, List.set_cons_zero]
              refine wpP_nil ?_
              intro w6 hw6
              have HP6 := Lib.hid hw6; clear hw6
              go_wp2_with (go_at_call 18; refine (sees_cls HP6.out 5 Ia.out (by have h := FF.out.sa X Y; rw [Hnr0.out] at h; exact h)).mono ?_; rintro e w7 ⟨rfl, hw7⟩; have HP7 := Lib.hid hw7; clear hw7)
              go_roundw
              case rel => exact ⟨k + 1, by omega, by go_num, Lib.hid HP7.out.st, HP7.out.bel⟩
              case measure => simp [intOf]; omega
          · cases two
            · as_aux_lemma =>
              refine wpP_op rfl (v4) (cls_pure (fun w' => rfl)) ?_
              simp only [Act.put, List.setIfInBounds_toArray, List.set_cons_succ, List.set_cons_zero]
              refine wpP_op rfl (.pointer (some ⟨B, 0, none⟩)) (cls_pure (fun w' => rfl)) ?_
              simp only [Act.put, List.setIfInBounds_toArray, List.set_cons_succ, List.set_cons_zero]
              refine wpP_op rfl (.int .i64 X) (cls_load (fun w' hw' => ?_)) ?_
              · have c0 := hw'.c0
                go_simp
              simp only [Act.put, List.setIfInBounds_toArray, List.set_cons_succ, List.set_cons_zero]
              refine wpP_op rfl (.pointer (some ⟨B, 1, none⟩)) (cls_pure (fun w' => rfl)) ?_
              simp only [Act.put, List.setIfInBounds_toArray, List.set_cons_succ, List.set_cons_zero]
              refine wpP_op rfl (.int .i64 Y) (cls_load (fun w' hw' => ?_)) ?_
              · have c0 := hw'.c1
                go_simp
              simp only [Act.put, List.setIfInBounds_toArray, List.set_cons_succ, List.set_cons_zero]
              refine wpP_op rfl (.bool true) (cls_pure (fun w' => rfl)) ?_
              simp only [Act.put, List.setIfInBounds_toArray, List.set_cons_succ, List.set_cons_zero]
              refine wpP_op rfl (.bool true) (cls_pure (fun w' => rfl)) ?_
              simp only [Act.put, List.setIfInBounds_toArray, List.set_cons_succ, List.set_cons_zero]
              refine wpP_pass (by rfl) (by decide) ?_
              simp only [Act.put, List.setIfInBounds_toArray, List.set_cons_succ, List.set_cons_zero]
              refine wpP_op rfl (.bool true) (cls_pure (fun w' => rfl)) ?_
              simp only [Act.put, List.setIfInBounds_toArray, List.set_cons_succ, List.set_cons_zero]
              refine wpP_op rfl (.bool true) (cls_call (f := 18) (args := #[v4, .int .i64 X, .int .i64 Y, .bool true]) (fun w' => ?_) (fun w' hw' => sees_cls hw' 3 Iu.out (by have h := FF.out.su X Y; rw [Hone.out, Htwo.out] at h; exact h))) ?_
              · go_simp
              simp only [Act.put, List.setIfInBounds_toArray, List.set_cons_succ, List.set_cons_zero]
              refine wpP_op rfl (.bool false) (cls_pure (fun w' => rfl)) ?_
              simp only [Act.put, List.setIfInBounds_toArray, List.set_cons_succ, List.set_cons_zero]
              refine wpP_op rfl (.bool false) (cls_pure (fun w' => rfl)) ?_
              simp only [Act.put, List.setIfInBounds_toArray, List.set_cons_succ, List.set_cons_zero]
              refine wpP_want (by rfl) (v5) (cls_pure (fun w' => rfl)) ?_
              simp only [Act.put, List.setIfInBounds_toArray, List.set_cons_succ, List.set_cons_zero]
              refine wpP_want (by rfl) (.pointer (some ⟨B, 0, none⟩)) (cls_pure (fun w' => rfl)) ?_
              simp only [Act.put, List.setIfInBounds_toArray, List.set_cons_succ, List.set_cons_zero]
              refine wpP_want (by rfl) (.int .i64 X) (cls_load (fun w' hw' => ?_)) ?_
              · have c0 := hw'.c0
                go_simp
              simp only [Act.put, List.setIfInBounds_toArray, List.set_cons_succ, List.set_cons_zero]
              refine wpP_want (by rfl) (.pointer (some ⟨B, 1, none⟩)) (cls_pure (fun w' => rfl)) ?_
              simp only [Act.put, List.setIfInBounds_toArray, List.set_cons_succ, List.set_cons_zero]
              refine wpP_want (by rfl) (.int .i64 Y) (cls_load (fun w' hw' => ?_)) ?_
              · have c0 := hw'.c1
                go_simp
              simp only [Act.put, List.setIfInBounds_toArray, List.set_cons_succ, List.set_cons_zero]
              refine wpP_want (by rfl) (.bool true) (cls_pure (fun w' => rfl)) ?_
              simp only [Act.put, List.setIfInBounds_toArray, List.set_cons_succ, List.set_cons_zero]
              refine wpP_want (by rfl) (.bool true) (cls_pure (fun w' => rfl)) ?_
              simp only [Act.put, List.setIfInBounds_toArray, List.set_cons_succ, List.set_cons_zero]
              refine wpP_want (by rfl) (.bool false) (cls_pure (fun w' => rfl)) ?_
              simp only [Act.put, List.setIfInBounds_toArray, List.set_cons_succ, List.set_cons_zero]
              refine wpP_want (by rfl) (.bool false) (cls_pure (fun w' => rfl)) ?_
              simp only [Act.put, List.setIfInBounds_toArray, List.set_cons_succ, List.set_cons_zero]
              refine wpP_want (by rfl) (.bool true) (cls_call (f := 18) (args := #[v5, .int .i64 X, .int .i64 Y, .bool false]) (fun w' => ?_) (fun w' hw' => sees_cls hw' 2 Ic.out (by have h := FF.out.sc X Y; rw [Hone.out, Htwo.out] at h; exact h))) ?_
              · go_simp
              simp only [Act.put, List.setIfInBounds_toArray, List.set_cons_succ, List.set_cons_zero]
              refine wpP_want (by rfl) (.bool false) (cls_pure (fun w' => rfl)) ?_
              simp only [Act.put, List.setIfInBounds_toArray, List.set_cons_succ, List.set_cons_zero]
              refine wpP_op rfl (.bool false) (cls_pure (fun w' => rfl)) ?_
              simp only [Act.put, List.setIfInBounds_toArray, List.set_cons_succ, List.set_cons_zero]
              refine wpP_op rfl (.bool false) (cls_pure (fun w' => rfl)) ?_
              simp only [Act.put, List.setIfInBounds_toArray, List.set_cons_succ, List.set_cons_zero]
              refine wpP_want (by rfl) (v6) (cls_pure (fun w' => rfl)) ?_
              simp only [Act.put, List.setIfInBounds_toArray, List.set_cons_succ, List.set_cons_zero]
              refine wpP_want (by rfl) (.pointer (some ⟨B, 0, none⟩)) (cls_pure (fun w' => rfl)) ?_
              simp only [Act.put, List.setIfInBounds_toArray, List.set_cons_succ, List.set_cons_zero]
              refine wpP_want (by rfl) (.int .i64 X) (cls_load (fun w' hw' => ?_)) ?_
              · have c0 := hw'.c0
                go_simp
              simp only [Act.put, List.setIfInBounds_toArray, List.set_cons_succ, List.set_cons_zero]
              refine wpP_want (by rfl) (.pointer (some ⟨B, 1, none⟩)) (cls_pure (fun w' => rfl)) ?_
              simp only [Act.put, List.setIfInBounds_toArray, List.set_cons_succ, List.set_cons_zero]
              refine wpP_want (by rfl) (.int .i64 Y) (cls_load (fun w' hw' => ?_)) ?_
              · have c0 := hw'.c1
                go_simp
              simp only [Act.put, List.setIfInBounds_toArray, List.set_cons_succ, List.set_cons_zero]
              refine wpP_want (by rfl) (.bool true) (cls_pure (fun w' => rfl)) ?_
              simp only [Act.put, List.setIfInBounds_toArray, List.set_cons_succ, List.set_cons_zero]
              refine wpP_want (by rfl) (.bool true) (cls_pure (fun w' => rfl)) ?_
              simp only [Act.put, List.setIfInBounds_toArray, List.set_cons_succ, List.set_cons_zero]
              refine wpP_want (by rfl) (.bool false) (cls_pure (fun w' => rfl)) ?_
              simp only [Act.put, List.setIfInBounds_toArray, List.set_cons_succ, List.set_cons_zero]
              refine wpP_want (by rfl) (.bool true) (cls_pure (fun w' => rfl)) ?_
              simp only [Act.put, List.setIfInBounds_toArray, List.set_cons_succ, List.set_cons_zero]
              refine wpP_want (by rfl) (.bool true) (cls_pure (fun w' => rfl)) ?_
              simp only [Act.put, List.setIfInBounds_toArray, List.set_cons_succ, List.set_cons_zero]
              refine wpP_want (by rfl) (.bool true) (cls_call (f := 18) (args := #[v6, .int .i64 X, .int .i64 Y, .bool true]) (fun w' => ?_) (fun w' hw' => sees_cls hw' 1 Im.out (by have h := FF.out.sm X Y; rw [Hone.out, Htwo.out] at h; exact h))) ?_
              · go_simp
              simp only [Act.put, List.setIfInBounds_toArray, List.set_cons_succ, List.set_cons_zero]
              refine wpP_want (by rfl) (.bool false) (cls_pure (fun w' => rfl)) ?_
              simp only [Act.put, List.setIfInBounds_toArray, List.set_cons_succ, List.set_cons_zero]
              refine wpP_op rfl (.bool false) (cls_pure (fun w' => rfl)) ?_
              simp only [Act.put, List.setIfInBounds_toArray, List.set_cons_succ, List.set_cons_zero]
              refine wpP_op rfl (.bool false) (cls_pure (fun w' => rfl)) ?_
              simp only [Act.put, List.setIfInBounds_toArray, List.set_cons_succ, List.set_cons_zero]
              refine wpP_want (by rfl) (v7) (cls_pure (fun w' => rfl)) ?_
              simp only [Act.put, List.setIfInBounds_toArray, List.set_cons_succ, List.set_cons_zero]
              refine wpP_want (by rfl) (.pointer (some ⟨B, 0, none⟩)) (cls_pure (fun w' => rfl)) ?_
              simp only [Act.put, List.setIfInBounds_toArray, List.set_cons_succ, List.set_cons_zero]
              refine wpP_want (by rfl) (.int .i64 X) (cls_load (fun w' hw' => ?_)) ?_
              · have c0 := hw'.c0
                go_simp
              simp only [Act.put, List.setIfInBounds_toArray, List.set_cons_succ, List.set_cons_zero]
              refine wpP_want (by rfl) (.pointer (some ⟨B, 1, none⟩)) (cls_pure (fun w' => rfl)) ?_
              simp only [Act.put, List.setIfInBounds_toArray, List.set_cons_succ, List.set_cons_zero]
              refine wpP_want (by rfl) (.int .i64 Y) (cls_load (fun w' hw' => ?_)) ?_
              · have c0 := hw'.c1
                go_simp
              simp only [Act.put, List.setIfInBounds_toArray, List.set_cons_succ, List.set_cons_zero]
              refine wpP_want (by rfl) (.slice Aqa na cqa) (cls_pure (fun w' => rfl)) ?_
              simp only [Act.put, List.setIfInBounds_toArray, List.set_cons_succ, List.set_cons_zero]
              refine wpP_want (by rfl) (.pointer (some ⟨B, 0, none⟩)) (cls_pure (fun w' => rfl)) ?_
              simp only [Act.put, List.setIfInBounds_toArray, List.set_cons_succ, List.set_cons_zero]
              refine wpP_want (by rfl) (.int .i64 X) (cls_load (fun w' hw' => ?_)) ?_
              · have c0 := hw'.c0
                go_simp
              simp only [Act.put, List.setIfInBounds_toArray, List.set_cons_succ, List.set_cons_zero]
              refine wpP_want (by rfl) (.pointer (some ⟨B, 1, none⟩)) (cls_pure (fun w' => rfl)) ?_
              simp only [Act.put, List.setIfInBounds_toArray, List.set_cons_succ, List.set_cons_zero]
              refine wpP_want (by rfl) (.int .i64 Y) (cls_load (fun w' hw' => ?_)) ?_
              · have c0 := hw'.c1
                go_simp
              simp only [Act.put, List.setIfInBounds_toArray, List.set_cons_succ, List.set_cons_zero]
              refine wpP_want (by rfl) (.int .i64 dd) (cls_pure (fun w' => rfl)) ?_
              simp only [Act.put, List.setIfInBounds_toArray, List.set_cons_succ, List.set_cons_zero]
              refine wpP_want (by rfl) (.bool nr) (cls_call (f := 19) (args := #[.slice Aqa na cqa, .int .i64 X, .int .i64 Y, .int .i64 dd]) (fun w' => ?_) (fun w' hw' => near_cls hw' 5 Ia.out FF.out.oa d0 d64 Hnr.out)) ?_
              · go_simp
              simp only [Act.put, List.setIfInBounds_toArray, List.set_cons_succ, List.set_cons_zero]
              refine wpP_want (by rfl) (.bool true) (cls_call (f := 18) (args := #[v7, .int .i64 X, .int .i64 Y, .bool nr]) (fun w' => ?_) (fun w' hw' => sees_cls hw' 0 Ig.out (by have h := FF.out.sg X Y; rw [Hnr.out] at h; exact h))) ?_
              · go_simp
              simp only [Act.put, List.setIfInBounds_toArray, List.set_cons_succ, List.set_cons_zero]
              refine wpP_want (by rfl) (.bool false) (cls_pure (fun w' => rfl)) ?_
              simp only [Act.put, List.setIfInBounds_toArray, List.set_cons_succ, List.set_cons_zero]
              refine wpP_op rfl (.bool false) (cls_pure (fun w' => rfl)) ?_
              simp only [Act.put, List.setIfInBounds_toArray, List.set_cons_succ, List.set_cons_zero]
              refine wpP_op rfl (.bool false) (cls_pure (fun w' => rfl)) ?_
              simp only [Act.put, List.setIfInBounds_toArray, List.set_cons_succ, List.set_cons_zero]
              refine wpP_want (by rfl) (.slice Aqa na cqa) (cls_pure (fun w' => rfl)) ?_
              simp only [Act.put, List.setIfInBounds_toArray, List.set_cons_succ, List.set_cons_zero]
              refine wpP_want (by rfl) (.pointer (some ⟨B, 0, none⟩)) (cls_pure (fun w' => rfl)) ?_
              simp only [Act.put, List.setIfInBounds_toArray, List.set_cons_succ, List.set_cons_zero]
              refine wpP_want (by rfl) (.int .i64 X) (cls_load (fun w' hw' => ?_)) ?_
              · have c0 := hw'.c0
                go_simp
              simp only [Act.put, List.setIfInBounds_toArray, List.set_cons_succ, List.set_cons_zero]
              refine wpP_want (by rfl) (.pointer (some ⟨B, 1, none⟩)) (cls_pure (fun w' => rfl)) ?_
              simp only [Act.put, List.setIfInBounds_toArray, List.set_cons_succ, List.set_cons_zero]
              refine wpP_want (by rfl) (.int .i64 Y) (cls_load (fun w' hw' => ?_)) ?_
              · have c0 := hw'.c1
                go_simp
              simp only [Act.put, List.setIfInBounds_toArray, List.set_cons_succ, List.set_cons_zero]
              refine wpP_want (by rfl) (.slice Aqa na cqa) (cls_pure (fun w' => rfl)) ?_
              simp only [Act.put, List.setIfInBounds_toArray, List.set_cons_succ, List.set_cons_zero]
              refine wpP_want (by rfl) (.pointer (some ⟨B, 0, none⟩)) (cls_pure (fun w' => rfl)) ?_
              simp only [Act.put, List.setIfInBounds_toArray, List.set_cons_succ, List.set_cons_zero]
              refine wpP_want (by rfl) (.int .i64 X) (cls_load (fun w' hw' => ?_)) ?_
              · have c0 := hw'.c0
                go_simp
              simp only [Act.put, List.setIfInBounds_toArray, List.set_cons_succ, List.set_cons_zero]
              refine wpP_want (by rfl) (.pointer (some ⟨B, 1, none⟩)) (cls_pure (fun w' => rfl)) ?_
              simp only [Act.put, List.setIfInBounds_toArray, List.set_cons_succ, List.set_cons_zero]
              refine wpP_want (by rfl) (.int .i64 Y) (cls_load (fun w' hw' => ?_)) ?_
              · have c0 := hw'.c1
                go_simp
              simp only [Act.put, List.setIfInBounds_toArray, List.set_cons_succ, List.set_cons_zero]
              refine wpP_want (by rfl) (.bool nr0) (cls_call (f := 19) (args := #[.slice Aqa na cqa, .int .i64 X, .int .i64 Y, .int .i64 0]) (fun w' => ?_) (fun w' hw' => near_cls hw' 5 Ia.out FF.out.oa (by omega) (by omega) Hnr0.out)) ?_
              · go_simp
              simp only [Act.put, List.setIfInBounds_toArray, List.set_cons_succ, List.set_cons_zero]
              refine wpP_nil ?_
              intro w6 hw6
              have HP6 := Lib.hid hw6; clear hw6
              go_wp2_with (go_at_call 18; refine (sees_cls HP6.out 5 Ia.out (by have h := FF.out.sa X Y; rw [Hnr0.out] at h; exact h)).mono ?_; rintro e w7 ⟨rfl, hw7⟩; have HP7 := Lib.hid hw7; clear hw7)
              go_roundw
              case rel => exact ⟨k + 1, by omega, by go_num, Lib.hid HP7.out.st, HP7.out.bel⟩
              case measure => simp [intOf]; omega
            · as_aux_lemma =>
              refine wpP_op rfl (v4) (cls_pure (fun w' => rfl)) ?_
              simp only [Act.put, List.setIfInBounds_toArray, List.set_cons_succ, List.set_cons_zero]
              refine wpP_op rfl (.pointer (some ⟨B, 0, none⟩)) (cls_pure (fun w' => rfl)) ?_
              simp only [Act.put, List.setIfInBounds_toArray, List.set_cons_succ, List.set_cons_zero]
              refine wpP_op rfl (.int .i64 X) (cls_load (fun w' hw' => ?_)) ?_
              · have c0 := hw'.c0
                go_simp
              simp only [Act.put, List.setIfInBounds_toArray, List.set_cons_succ, List.set_cons_zero]
              refine wpP_op rfl (.pointer (some ⟨B, 1, none⟩)) (cls_pure (fun w' => rfl)) ?_
              simp only [Act.put, List.setIfInBounds_toArray, List.set_cons_succ, List.set_cons_zero]
              refine wpP_op rfl (.int .i64 Y) (cls_load (fun w' hw' => ?_)) ?_
              · have c0 := hw'.c1
                go_simp
              simp only [Act.put, List.setIfInBounds_toArray, List.set_cons_succ, List.set_cons_zero]
              refine wpP_op rfl (.bool true) (cls_pure (fun w' => rfl)) ?_
              simp only [Act.put, List.setIfInBounds_toArray, List.set_cons_succ, List.set_cons_zero]
              refine wpP_op rfl (.bool true) (cls_pure (fun w' => rfl)) ?_
              simp only [Act.put, List.setIfInBounds_toArray, List.set_cons_succ, List.set_cons_zero]
              refine wpP_pass (by rfl) (by decide) ?_
              simp only [Act.put, List.setIfInBounds_toArray, List.set_cons_succ, List.set_cons_zero]
              refine wpP_op rfl (.bool true) (cls_pure (fun w' => rfl)) ?_
              simp only [Act.put, List.setIfInBounds_toArray, List.set_cons_succ, List.set_cons_zero]
              refine wpP_op rfl (.bool true) (cls_call (f := 18) (args := #[v4, .int .i64 X, .int .i64 Y, .bool true]) (fun w' => ?_) (fun w' hw' => sees_cls hw' 3 Iu.out (by have h := FF.out.su X Y; rw [Hone.out, Htwo.out] at h; exact h))) ?_
              · go_simp
              simp only [Act.put, List.setIfInBounds_toArray, List.set_cons_succ, List.set_cons_zero]
              refine wpP_op rfl (.bool false) (cls_pure (fun w' => rfl)) ?_
              simp only [Act.put, List.setIfInBounds_toArray, List.set_cons_succ, List.set_cons_zero]
              refine wpP_op rfl (.bool false) (cls_pure (fun w' => rfl)) ?_
              simp only [Act.put, List.setIfInBounds_toArray, List.set_cons_succ, List.set_cons_zero]
              refine wpP_want (by rfl) (v5) (cls_pure (fun w' => rfl)) ?_
              simp only [Act.put, List.setIfInBounds_toArray, List.set_cons_succ, List.set_cons_zero]
              refine wpP_want (by rfl) (.pointer (some ⟨B, 0, none⟩)) (cls_pure (fun w' => rfl)) ?_
              simp only [Act.put, List.setIfInBounds_toArray, List.set_cons_succ, List.set_cons_zero]
              refine wpP_want (by rfl) (.int .i64 X) (cls_load (fun w' hw' => ?_)) ?_
              · have c0 := hw'.c0
                go_simp
              simp only [Act.put, List.setIfInBounds_toArray, List.set_cons_succ, List.set_cons_zero]
              refine wpP_want (by rfl) (.pointer (some ⟨B, 1, none⟩)) (cls_pure (fun w' => rfl)) ?_
              simp only [Act.put, List.setIfInBounds_toArray, List.set_cons_succ, List.set_cons_zero]
              refine wpP_want (by rfl) (.int .i64 Y) (cls_load (fun w' hw' => ?_)) ?_
              · have c0 := hw'.c1
                go_simp
              simp only [Act.put, List.setIfInBounds_toArray, List.set_cons_succ, List.set_cons_zero]
              refine wpP_want (by rfl) (.bool true) (cls_pure (fun w' => rfl)) ?_
              simp only [Act.put, List.setIfInBounds_toArray, List.set_cons_succ, List.set_cons_zero]
              refine wpP_want (by rfl) (.bool true) (cls_pure (fun w' => rfl)) ?_
              simp only [Act.put, List.setIfInBounds_toArray, List.set_cons_succ, List.set_cons_zero]
              refine wpP_want (by rfl) (.bool true) (cls_pure (fun w' => rfl)) ?_
              simp only [Act.put, List.setIfInBounds_toArray, List.set_cons_succ, List.set_cons_zero]
              refine wpP_want (by rfl) (.bool true) (cls_pure (fun w' => rfl)) ?_
              simp only [Act.put, List.setIfInBounds_toArray, List.set_cons_succ, List.set_cons_zero]
              refine wpP_want (by rfl) (.bool true) (cls_call (f := 18) (args := #[v5, .int .i64 X, .int .i64 Y, .bool true]) (fun w' => ?_) (fun w' hw' => sees_cls hw' 2 Ic.out (by have h := FF.out.sc X Y; rw [Hone.out, Htwo.out] at h; exact h))) ?_
              · go_simp
              simp only [Act.put, List.setIfInBounds_toArray, List.set_cons_succ, List.set_cons_zero]
              refine wpP_want (by rfl) (.bool false) (cls_pure (fun w' => rfl)) ?_
              simp only [Act.put, List.setIfInBounds_toArray, List.set_cons_succ, List.set_cons_zero]
              refine wpP_op rfl (.bool false) (cls_pure (fun w' => rfl)) ?_
              simp only [Act.put, List.setIfInBounds_toArray, List.set_cons_succ, List.set_cons_zero]
              refine wpP_op rfl (.bool false) (cls_pure (fun w' => rfl)) ?_
              simp only [Act.put, List.setIfInBounds_toArray, List.set_cons_succ, List.set_cons_zero]
              refine wpP_want (by rfl) (v6) (cls_pure (fun w' => rfl)) ?_
              simp only [Act.put, List.setIfInBounds_toArray, List.set_cons_succ, List.set_cons_zero]
              refine wpP_want (by rfl) (.pointer (some ⟨B, 0, none⟩)) (cls_pure (fun w' => rfl)) ?_
              simp only [Act.put, List.setIfInBounds_toArray, List.set_cons_succ, List.set_cons_zero]
              refine wpP_want (by rfl) (.int .i64 X) (cls_load (fun w' hw' => ?_)) ?_
              · have c0 := hw'.c0
                go_simp
              simp only [Act.put, List.setIfInBounds_toArray, List.set_cons_succ, List.set_cons_zero]
              refine wpP_want (by rfl) (.pointer (some ⟨B, 1, none⟩)) (cls_pure (fun w' => rfl)) ?_
              simp only [Act.put, List.setIfInBounds_toArray, List.set_cons_succ, List.set_cons_zero]
              refine wpP_want (by rfl) (.int .i64 Y) (cls_load (fun w' hw' => ?_)) ?_
              · have c0 := hw'.c1
                go_simp
              simp only [Act.put, List.setIfInBounds_toArray, List.set_cons_succ, List.set_cons_zero]
              refine wpP_want (by rfl) (.bool true) (cls_pure (fun w' => rfl)) ?_
              simp only [Act.put, List.setIfInBounds_toArray, List.set_cons_succ, List.set_cons_zero]
              refine wpP_want (by rfl) (.bool true) (cls_pure (fun w' => rfl)) ?_
              simp only [Act.put, List.setIfInBounds_toArray, List.set_cons_succ, List.set_cons_zero]
              refine wpP_want (by rfl) (.bool true) (cls_pure (fun w' => rfl)) ?_
              simp only [Act.put, List.setIfInBounds_toArray, List.set_cons_succ, List.set_cons_zero]
              refine wpP_want (by rfl) (.bool false) (cls_pure (fun w' => rfl)) ?_
              simp only [Act.put, List.setIfInBounds_toArray, List.set_cons_succ, List.set_cons_zero]
              refine wpP_want (by rfl) (.bool false) (cls_pure (fun w' => rfl)) ?_
              simp only [Act.put, List.setIfInBounds_toArray, List.set_cons_succ, List.set_cons_zero]
              refine wpP_want (by rfl) (.bool true) (cls_call (f := 18) (args := #[v6, .int .i64 X, .int .i64 Y, .bool false]) (fun w' => ?_) (fun w' hw' => sees_cls hw' 1 Im.out (by have h := FF.out.sm X Y; rw [Hone.out, Htwo.out] at h; exact h))) ?_
              · go_simp
              simp only [Act.put, List.setIfInBounds_toArray, List.set_cons_succ, List.set_cons_zero]
              refine wpP_want (by rfl) (.bool false) (cls_pure (fun w' => rfl)) ?_
              simp only [Act.put, List.setIfInBounds_toArray, List.set_cons_succ, List.set_cons_zero]
              refine wpP_op rfl (.bool false) (cls_pure (fun w' => rfl)) ?_
              simp only [Act.put, List.setIfInBounds_toArray, List.set_cons_succ, List.set_cons_zero]
              refine wpP_op rfl (.bool false) (cls_pure (fun w' => rfl)) ?_
              simp only [Act.put, List.setIfInBounds_toArray, List.set_cons_succ, List.set_cons_zero]
              refine wpP_want (by rfl) (v7) (cls_pure (fun w' => rfl)) ?_
              simp only [Act.put, List.setIfInBounds_toArray, List.set_cons_succ, List.set_cons_zero]
              refine wpP_want (by rfl) (.pointer (some ⟨B, 0, none⟩)) (cls_pure (fun w' => rfl)) ?_
              simp only [Act.put, List.setIfInBounds_toArray, List.set_cons_succ, List.set_cons_zero]
              refine wpP_want (by rfl) (.int .i64 X) (cls_load (fun w' hw' => ?_)) ?_
              · have c0 := hw'.c0
                go_simp
              simp only [Act.put, List.setIfInBounds_toArray, List.set_cons_succ, List.set_cons_zero]
              refine wpP_want (by rfl) (.pointer (some ⟨B, 1, none⟩)) (cls_pure (fun w' => rfl)) ?_
              simp only [Act.put, List.setIfInBounds_toArray, List.set_cons_succ, List.set_cons_zero]
              refine wpP_want (by rfl) (.int .i64 Y) (cls_load (fun w' hw' => ?_)) ?_
              · have c0 := hw'.c1
                go_simp
              simp only [Act.put, List.setIfInBounds_toArray, List.set_cons_succ, List.set_cons_zero]
              refine wpP_want (by rfl) (.slice Aqa na cqa) (cls_pure (fun w' => rfl)) ?_
              simp only [Act.put, List.setIfInBounds_toArray, List.set_cons_succ, List.set_cons_zero]
              refine wpP_want (by rfl) (.pointer (some ⟨B, 0, none⟩)) (cls_pure (fun w' => rfl)) ?_
              simp only [Act.put, List.setIfInBounds_toArray, List.set_cons_succ, List.set_cons_zero]
              refine wpP_want (by rfl) (.int .i64 X) (cls_load (fun w' hw' => ?_)) ?_
              · have c0 := hw'.c0
                go_simp
              simp only [Act.put, List.setIfInBounds_toArray, List.set_cons_succ, List.set_cons_zero]
              refine wpP_want (by rfl) (.pointer (some ⟨B, 1, none⟩)) (cls_pure (fun w' => rfl)) ?_
              simp only [Act.put, List.setIfInBounds_toArray, List.set_cons_succ, List.set_cons_zero]
              refine wpP_want (by rfl) (.int .i64 Y) (cls_load (fun w' hw' => ?_)) ?_
              · have c0 := hw'.c1
                go_simp
              simp only [Act.put, List.setIfInBounds_toArray, List.set_cons_succ, List.set_cons_zero]
              refine wpP_want (by rfl) (.int .i64 dd) (cls_pure (fun w' => rfl)) ?_
              simp only [Act.put, List.setIfInBounds_toArray, List.set_cons_succ, List.set_cons_zero]
              refine wpP_want (by rfl) (.bool nr) (cls_call (f := 19) (args := #[.slice Aqa na cqa, .int .i64 X, .int .i64 Y, .int .i64 dd]) (fun w' => ?_) (fun w' hw' => near_cls hw' 5 Ia.out FF.out.oa d0 d64 Hnr.out)) ?_
              · go_simp
              simp only [Act.put, List.setIfInBounds_toArray, List.set_cons_succ, List.set_cons_zero]
              refine wpP_want (by rfl) (.bool true) (cls_call (f := 18) (args := #[v7, .int .i64 X, .int .i64 Y, .bool nr]) (fun w' => ?_) (fun w' hw' => sees_cls hw' 0 Ig.out (by have h := FF.out.sg X Y; rw [Hnr.out] at h; exact h))) ?_
              · go_simp
              simp only [Act.put, List.setIfInBounds_toArray, List.set_cons_succ, List.set_cons_zero]
              refine wpP_want (by rfl) (.bool false) (cls_pure (fun w' => rfl)) ?_
              simp only [Act.put, List.setIfInBounds_toArray, List.set_cons_succ, List.set_cons_zero]
              refine wpP_op rfl (.bool false) (cls_pure (fun w' => rfl)) ?_
              simp only [Act.put, List.setIfInBounds_toArray, List.set_cons_succ, List.set_cons_zero]
              refine wpP_op rfl (.bool false) (cls_pure (fun w' => rfl)) ?_
              simp only [Act.put, List.setIfInBounds_toArray, List.set_cons_succ, List.set_cons_zero]
              refine wpP_want (by rfl) (.slice Aqa na cqa) (cls_pure (fun w' => rfl)) ?_
              simp only [Act.put, List.setIfInBounds_toArray, List.set_cons_succ, List.set_cons_zero]
              refine wpP_want (by rfl) (.pointer (some ⟨B, 0, none⟩)) (cls_pure (fun w' => rfl)) ?_
              simp only [Act.put, List.setIfInBounds_toArray, List.set_cons_succ, List.set_cons_zero]
              refine wpP_want (by rfl) (.int .i64 X) (cls_load (fun w' hw' => ?_)) ?_
              · have c0 := hw'.c0
                go_simp
              simp only [Act.put, List.setIfInBounds_toArray, List.set_cons_succ, List.set_cons_zero]
              refine wpP_want (by rfl) (.pointer (some ⟨B, 1, none⟩)) (cls_pure (fun w' => rfl)) ?_
              simp only [Act.put, List.setIfInBounds_toArray, List.set_cons_succ, List.set_cons_zero]
              refine wpP_want (by rfl) (.int .i64 Y) (cls_load (fun w' hw' => ?_)) ?_
              · have c0 := hw'.c1
                go_simp
              simp only [Act.put, List.setIfInBounds_toArray, List.set_cons_succ, List.set_cons_zero]
              refine wpP_want (by rfl) (.slice Aqa na cqa) (cls_pure (fun w' => rfl)) ?_
              simp only [Act.put, List.setIfInBounds_toArray, List.set_cons_succ, List.set_cons_zero]
              refine wpP_want (by rfl) (.pointer (some ⟨B, 0, none⟩)) (cls_pure (fun w' => rfl)) ?_
              simp only [Act.put, List.setIfInBounds_toArray, List.set_cons_succ, List.set_cons_zero]
              refine wpP_want (by rfl) (.int .i64 X) (cls_load (fun w' hw' => ?_)) ?_
              · have c0 := hw'.c0
                go_simp
              simp only [Act.put, List.setIfInBounds_toArray, List.set_cons_succ, List.set_cons_zero]
              refine wpP_want (by rfl) (.pointer (some ⟨B, 1, none⟩)) (cls_pure (fun w' => rfl)) ?_
              simp only [Act.put, List.setIfInBounds_toArray, List.set_cons_succ, List.set_cons_zero]
              refine wpP_want (by rfl) (.int .i64 Y) (cls_load (fun w' hw' => ?_)) ?_
              · have c0 := hw'.c1
                go_simp
              simp only [Act.put, List.setIfInBounds_toArray, List.set_cons_succ, List.set_cons_zero]
              refine wpP_want (by rfl) (.bool nr0) (cls_call (f := 19) (args := #[.slice Aqa na cqa, .int .i64 X, .int .i64 Y, .int .i64 0]) (fun w' => ?_) (fun w' hw' => near_cls hw' 5 Ia.out FF.out.oa (by omega) (by omega) Hnr0.out)) ?_
              · go_simp
              simp only [Act.put, List.setIfInBounds_toArray, List.set_cons_succ, List.set_cons_zero]
              refine wpP_nil ?_
              intro w6 hw6
              have HP6 := Lib.hid hw6; clear hw6
              go_wp2_with (go_at_call 18; refine (sees_cls HP6.out 5 Ia.out (by have h := FF.out.sa X Y; rw [Hnr0.out] at h; exact h)).mono ?_; rintro e w7 ⟨rfl, hw7⟩; have HP7 := Lib.hid hw7; clear hw7)
              go_roundw
              case rel => exact ⟨k + 1, by omega, by go_num, Lib.hid HP7.out.st, HP7.out.bel⟩
              case measure => simp [intOf]; omega
        · obtain rfl : k = N := by omega
          go_wp2_with (fail)
          go_ret
          exact ⟨rfl, hS4.out.bel⟩
end Go.Proofs.YtplamgmmncenjaaDoorR
