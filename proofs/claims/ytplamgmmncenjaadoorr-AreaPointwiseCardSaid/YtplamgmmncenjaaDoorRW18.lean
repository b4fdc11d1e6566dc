/- Walk: sane, the examples ahead of each law. -/
import Derived.Test.YtplamgmmncenjaaDoorRW17
import Derived.Test.YtplamgmmncenjaaDoorRR3
namespace Go.Proofs.YtplamgmmncenjaaDoorR
open Go.RowKit
section
variable {w0 w w' : World} {ps : List (Value × List Rct)} {v : Value} {l : List Rct}
theorem slR_new (w : World) (t : TypeId) (cs : Array Value) (l : List Rct) (n : Nat) (hn : n = l.length) (h : cs.toList = cellsR l) (hm : n ≤ 100) : SlR (w.alloc (.cells cs t)) (.slice (some ⟨w.heap.size, 0, none⟩) n n) l := by
  subst hn
  refine ⟨cellsR_len l, _, _, rfl, Nat.le_refl _, by unfold maxLen; omega, fun _ => ⟨_, 0, rfl, by simp, fun j u hu => ?_⟩⟩
  rw [← h] at hu
  rw [Nat.zero_add, (Blk.new w t cs).cell]
  simpa using hu
theorem St.lit (S : St w0 w ps) (t : TypeId) (cs : Array Value) (l : List Rct) (n : Nat) (hn : n = l.length) (h : cs.toList = cellsR l) (hm : n ≤ 100) : St w0 (w.alloc (.cells cs t)) ((.slice (some ⟨w.heap.size, 0, none⟩) n n, l) :: ps) :=
  S.step ((Below.refl _ w).alloc (Nat.le_refl _) _) (slR_new w t cs l n hn h hm)
theorem St.nil (S : St w0 w ps) : St w0 w ((.slice none 0 0, []) :: ps) := S.step (Below.refl _ w) (Sl.nil w 4)
theorem St.start (h : HasTab w) : St w w [] := ⟨h, fun _ hp => by simp at hp, Below.refl _ w⟩
end
def qA : Rct := ⟨0, 4, 0, 4⟩
def qB : Rct := ⟨2, 6, 2, 4⟩
theorem k01 : combE orN [qA] [qB] = 0 := by decide +kernel
theorem k02 : combL orN [qA] [qB] = [⟨0, 4, 0, 2⟩, ⟨0, 6, 2, 4⟩] := by decide +kernel
theorem k03 : combE andN [qA] [qB] = 0 := by decide +kernel
theorem k04 : combL andN [qA] [qB] = [⟨2, 4, 2, 4⟩] := by decide +kernel
theorem k05 : combE minusN [qA] [qB] = 0 := by decide +kernel
theorem k06 : combL minusN [qA] [qB] = [⟨0, 4, 0, 2⟩, ⟨0, 2, 2, 4⟩] := by decide +kernel
theorem k07 : ofE [⟨4, 8, 0, 4⟩, qA] = 0 := by decide +kernel
theorem k08 : ofL [⟨4, 8, 0, 4⟩, qA] = [⟨0, 8, 0, 4⟩] := by decide +kernel
theorem k09 : growE [qB] 1 = 0 := by decide +kernel
theorem k10 : growL [qB] 1 = [⟨1, 7, 1, 5⟩] := by decide +kernel
theorem k11 : ofE [⟨4, 4, 0, 4⟩] = 290 := by decide +kernel
theorem k12 : ofL [⟨4, 4, 0, 4⟩] = [] := by decide +kernel
theorem k13 : growE [qB] 65 = 290 := by decide +kernel
theorem k14 : growL [qB] 65 = [] := by decide +kernel
theorem k15 : (sizeL [qA] : Int) = 16 := by decide +kernel
theorem k16 : (sizeL [qB] : Int) = 8 := by decide +kernel
theorem k17 : (sizeL [⟨0, 4, 0, 2⟩, ⟨0, 6, 2, 4⟩] : Int) = 20 := by decide +kernel
theorem k18 : hasL [qA] 3 3 = true := by decide +kernel
theorem k19 : hasL [qA] 4 3 = false := by decide +kernel
theorem k20 : withinL [⟨2, 4, 2, 4⟩] [qA] = true := by decide +kernel
theorem k21 : withinL [qA] [⟨2, 4, 2, 4⟩] = false := by decide +kernel
theorem k22 : validL [qA] = true := by decide +kernel
theorem k23 : validL [⟨0, 4, 0, 2⟩, ⟨0, 4, 2, 4⟩] = false := by decide +kernel
/-! ### sane -/
theorem slR_cells4 {w : World} {p n c : Nat} {q : Rct} {l : List Rct} (h : SlR w (.slice (some ⟨p, 0, none⟩) n c) (q :: l)) : w.cell? ⟨p, 0, none⟩ = some (.int .i64 q.l) ∧ w.cell? ⟨p, 1, none⟩ = some (.int .i64 q.r) ∧ w.cell? ⟨p, 2, none⟩ = some (.int .i64 q.lo) ∧ w.cell? ⟨p, 3, none⟩ = some (.int .i64 q.hi) := by
  obtain ⟨h1, A, cap, h2, h3, h4, h5⟩ := h
  cases h2
  obtain ⟨b, off, e, hb, hc⟩ := h5 (by simp)
  cases e
  have e : cellsR (q :: l) = encR q ++ cellsR l := rfl
  have k : ∀ j u, (encR q)[j]? = some u → (cellsR (q :: l))[j]? = some u := fun j u hu => by
    rw [e, List.getElem?_append_left (List.getElem?_eq_some_iff.1 hu).1]; exact hu
  have g : ∀ j u, (encR q)[j]? = some u → w.cell? ⟨p, j, none⟩ = some u := fun j u hu => by
    have := hc j u (k j u hu)
    rwa [Nat.zero_add] at this
  exact ⟨g 0 _ rfl, g 1 _ rfl, g 2 _ rfl, g 3 _ rfl⟩
theorem rectX_any (a b c d : Int) (w : World) :
    Calls Tryd.prog 28 #[.int .i64 a, .int .i64 b, .int .i64 c, .int .i64 d] w fun e w' => e = .returned (.agg #[.int .i64 a, .int .i64 b, .int .i64 c, .int .i64 d]) ∧ w' = w.alloc (.cells #[.int .i64 a, .int .i64 b, .int .i64 c, .int .i64 d] 36) := by
  go_enter Tryd.func28, Tryd.ntmps28
  go_wp2
  exact bodyPost_ret (results_cell_row rfl _ _ w.heap.size 36 _ (0, 0) _ rfl (Blk.new w _ _) rect_ht rfl (by kernel_rfl)) rfl ⟨rfl, rfl⟩
section
variable {P : Program} {s : Nat}
theorem ok_make_call {w : World} {ob : Obj} {o : Oper} {a : Act} {v : Value} {f : FuncId} {args : Array Value} (hv : ∀ w', (execOp a.eval o).run P w' = .ok (.enter f args) w') (hc : ∀ n, Calls P f args (w.drewN n) fun e w' => e = .returned v ∧ ∃ m, w' = (w.alloc ob).drewN m) : okStep P (allocPh w ob) s s o a v := by
  unfold okStep; rw [if_pos rfl]
  rintro w' ⟨n, rfl⟩; rw [hv]
  exact (hc n).mono fun e w' hh => by obtain ⟨he, m, rfl⟩ := hh; exact ⟨he, m, rfl⟩
theorem ok_read {w : World} {ob : Obj} {i : Nat} {o : Oper} {a : Act} {v : Value} (hi : i ≠ s) (hv : ∀ w' : World, (∀ p : Addr, p.block < w.heap.size → w'.cell? p = w.cell? p) → (execOp a.eval o).run P w' = .ok (.value v) w') : okStep P (allocPh w ob) s i o a v := by
  unfold okStep; rw [if_neg hi]
  intro _ w' hw; rw [hv w' (fun _ hp => allocPh_cell hw hp)]; exact ⟨rfl, hw⟩
end
set_option maxRecDepth 100000 in
set_option maxHeartbeats 4000000 in
theorem sane_any (w : World) (hT : HasTab w) : Calls Tryd.prog 9 #[] w fun e w' => e = .returned (.bool true) ∧ Below w.heap.size w w' := by
  have hS := St.start hT
  have HS := Lib.hid hS
  clear hS hT
  go_enter Tryd.func9, Tryd.ntmps9
  go_wp2_with (fail)
  refine (rect_st HS.out 0 4 0 4).mono ?_
  rintro e w1 ⟨rfl, hS⟩
  clear HS; have HS := Lib.hid hS; clear hS
  go_wp2_with (fail)
  generalize hW : World.alloc _ _ = W
  have hS : St w W ((.slice (some ⟨w1.heap.size, 0, none⟩) 1 1, [qA]) :: []) := by rw [← hW]; exact HS.out.lit _ _ _ 1 rfl rfl (by omega)
  clear hW
  generalize w1.heap.size = p1 at hS ⊢
  clear HS; have HS := Lib.hid hS; clear hS
  refine (rect_st HS.out 2 6 2 4).mono ?_
  rintro e w2 ⟨rfl, hS⟩
  clear HS; have HS := Lib.hid hS; clear hS
  go_wp2_with (fail)
  generalize hW : World.alloc _ _ = W
  have hS : St w W ((.slice (some ⟨w2.heap.size, 0, none⟩) 1 1, [qB]) :: [(.slice (some ⟨p1, 0, none⟩) 1 1, [qA])]) := by rw [← hW]; exact HS.out.lit _ _ _ 1 rfl rfl (by omega)
  clear hW
  generalize w2.heap.size = p2 at hS ⊢
  clear HS; have HS := Lib.hid hS; clear hS
  refine (union_st HS.out 1 0 rfl rfl k01 k02).mono ?_
  rintro e w3 ⟨v3, rfl, hS⟩
  clear HS; have HS := Lib.hid hS; clear hS
  go_wp2_with (fail)
  refine (common_st HS.out 2 1 rfl rfl k03 k04).mono ?_
  rintro e w4 ⟨v4, rfl, hS⟩
  clear HS; have HS := Lib.hid hS; clear hS
  go_wp2_with (fail)
  refine (minus_st HS.out 3 2 rfl rfl k05 k06).mono ?_
  rintro e w5 ⟨v5, rfl, hS⟩
  clear HS; have HS := Lib.hid hS; clear hS
  go_wp2_with (fail)
  obtain ⟨c0, c1, c2, c3⟩ := slR_cells4 (HS.out.get 4 rfl)
  refine region_seg (by kernel_rfl) ?_
  refine any_seg (C := allocPh w5 (.cells #[.int .i64 4, .int .i64 8, .int .i64 0, .int .i64 4] 36)) (s := 0) 0 4 7 (by rfl) (by kernel_rfl) (by omega) ⟨1, rfl⟩ ?_
  change wpP _ _ _ _ _ _ [_, _, _, _] _
  refine wpP_op rfl (.agg #[.int .i64 4, .int .i64 8, .int .i64 0, .int .i64 4]) (ok_make_call (f := 28) (args := #[.int .i64 4, .int .i64 8, .int .i64 0, .int .i64 4]) (fun w' => ?_) (fun n => ?_)) ?_
  · go_simp
  · exact (rectX_any 4 8 0 4 _).mono fun _ _ ⟨he, hw⟩ => ⟨he, n, by rw [hw]; rfl⟩
  simp only [Act.put, List.setIfInBounds_toArray, List.set_cons_succ, List.set_cons_zero]
  refine wpP_op rfl (.slice (some ⟨p1, 0, none⟩) 1 1) (ok_all (by omega) (fun w' => ?_)) ?_
  · go_simp
  simp only [Act.put, List.setIfInBounds_toArray, List.set_cons_succ, List.set_cons_zero]
  refine wpP_op rfl (.pointer (some ⟨p1, 0, none⟩)) (ok_all (by omega) (fun w' => ?_)) ?_
  · go_simp
  simp only [Act.put, List.setIfInBounds_toArray, List.set_cons_succ, List.set_cons_zero]
  refine wpP_op rfl (.agg #[.int .i64 0, .int .i64 4, .int .i64 0, .int .i64 4]) (ok_read (by omega) (fun w' hw' => ?_)) ?_
  · have d0 := (hw' _ (cell_lt c0)).trans c0
    have d1 := (hw' _ (cell_lt c1)).trans c1
    have d2 := (hw' _ (cell_lt c2)).trans c2
    have d3 := (hw' _ (cell_lt c3)).trans c3
    clear c0 c1 c2 c3
    go_simp
    exact ⟨rfl, rfl, rfl, rfl⟩
  simp only [Act.put, List.setIfInBounds_toArray, List.set_cons_succ, List.set_cons_zero]
  refine wpP_nil ?_
  intro w' hw'
  have hw2 : ∃ k, w' = (World.alloc w5 (.cells #[.int .i64 4, .int .i64 8, .int .i64 0, .int .i64 4] 36)).drewN k := hw'
  clear hw'
  obtain ⟨nr, rfl⟩ := hw2
  clear c0 c1 c2 c3
  generalize hW0 : World.drewN _ nr = W0
  have hS : St w W0 [(v5, [⟨0, 4, 0, 2⟩, ⟨0, 2, 2, 4⟩]), (v4, [⟨2, 4, 2, 4⟩]), (v3, [⟨0, 4, 0, 2⟩, ⟨0, 6, 2, 4⟩]), (.slice (some ⟨p2, 0, none⟩) 1 1, [qB]), (.slice (some ⟨p1, 0, none⟩) 1 1, [qA])] := by rw [← hW0]; exact (HS.out.still ((Below.refl _ _).alloc (Nat.le_refl _) _)).drewN nr
  clear hW0 nr
  clear HS; have HS := Lib.hid hS; clear hS
  refine any_seq 4 7 4 (by rfl) (by decide) (by decide) (by kernel_rfl) ?_
  change wpList _ _ _ [_, _, _] _ _
  go_wp2_with (fail)
  generalize hW : World.alloc _ _ = W
  have hS : St w W ((.slice (some ⟨W0.heap.size, 0, none⟩) 2 2, [⟨4, 8, 0, 4⟩, qA]) :: [(v5, [⟨0, 4, 0, 2⟩, ⟨0, 2, 2, 4⟩]), (v4, [⟨2, 4, 2, 4⟩]), (v3, [⟨0, 4, 0, 2⟩, ⟨0, 6, 2, 4⟩]), (.slice (some ⟨p2, 0, none⟩) 1 1, [qB]), (.slice (some ⟨p1, 0, none⟩) 1 1, [qA])]) := by rw [← hW]; exact HS.out.lit _ _ _ 2 rfl rfl (by omega)
  clear hW
  generalize W0.heap.size = p3 at hS ⊢
  clear HS; have HS := Lib.hid hS; clear hS
  refine (of_st HS.out 0  rfl k07 k08).mono ?_
  rintro e w6 ⟨v6, rfl, hS⟩
  clear HS; have HS := Lib.hid hS; clear hS
  go_wp2_with (fail)
  change wpAny _ _ _ _ 4 (upTo 7 11) _ _
  refine any_seg (C := fun _ w' => ∃ k, w' = w6.drewN k) (s := 10) 7 10 1 (by rfl) (by kernel_rfl) (by omega) ⟨0, rfl⟩ ?_
  change wpP _ _ _ _ _ _ [_, _, _] _
  refine wpP_op rfl (v6) (ok_all (by omega) (fun w' => ?_)) ?_
  · go_simp
  simp only [Act.put, List.setIfInBounds_toArray, List.set_cons_succ, List.set_cons_zero]
  refine wpP_op rfl (.int .i64 0) (ok_all (by omega) (fun w' => ?_)) ?_
  · go_simp
  simp only [Act.put, List.setIfInBounds_toArray, List.set_cons_succ, List.set_cons_zero]
  refine wpP_op rfl (v6) (ok_all (by omega) (fun w' => ?_)) ?_
  · go_simp
  simp only [Act.put, List.setIfInBounds_toArray, List.set_cons_succ, List.set_cons_zero]
  refine wpP_nil ?_
  intro w' hw'
  have hw2 : ∃ k, w' = w6.drewN k := hw'
  clear hw'
  obtain ⟨nr, rfl⟩ := hw2
  generalize hW0 : World.drewN _ nr = W1
  have hS : St w W1 [(v6, [⟨0, 8, 0, 4⟩]), (.slice (some ⟨p3, 0, none⟩) 2 2, [⟨4, 8, 0, 4⟩, qA]), (v5, [⟨0, 4, 0, 2⟩, ⟨0, 2, 2, 4⟩]), (v4, [⟨2, 4, 2, 4⟩]), (v3, [⟨0, 4, 0, 2⟩, ⟨0, 6, 2, 4⟩]), (.slice (some ⟨p2, 0, none⟩) 1 1, [qB]), (.slice (some ⟨p1, 0, none⟩) 1 1, [qA])] := by rw [← hW0]; exact HS.out.drewN nr
  clear hW0 nr
  clear HS; have HS := Lib.hid hS; clear hS
  refine any_end 10 (by rfl) (by kernel_rfl) ?_
  change wpList _ _ _ [_] _ _
  go_wp2_with (fail)
  refine (grow_st HS.out 5 1 rfl k09 k10).mono ?_
  rintro e w7 ⟨v7, rfl, hS⟩
  clear HS; have HS := Lib.hid hS; clear hS
  go_wp2_with (fail)
  refine (rect_st HS.out 4 4 0 4).mono ?_
  rintro e w8 ⟨rfl, hS⟩
  clear HS; have HS := Lib.hid hS; clear hS
  go_wp2_with (fail)
  generalize hW : World.alloc _ _ = W
  have hS : St w W ((.slice (some ⟨w8.heap.size, 0, none⟩) 1 1, [⟨4, 4, 0, 4⟩]) :: [(v7, [⟨1, 7, 1, 5⟩]), (v6, [⟨0, 8, 0, 4⟩]), (.slice (some ⟨p3, 0, none⟩) 2 2, [⟨4, 8, 0, 4⟩, qA]), (v5, [⟨0, 4, 0, 2⟩, ⟨0, 2, 2, 4⟩]), (v4, [⟨2, 4, 2, 4⟩]), (v3, [⟨0, 4, 0, 2⟩, ⟨0, 6, 2, 4⟩]), (.slice (some ⟨p2, 0, none⟩) 1 1, [qB]), (.slice (some ⟨p1, 0, none⟩) 1 1, [qA])]) := by rw [← hW]; exact HS.out.lit _ _ _ 1 rfl rfl (by omega)
  clear hW
  generalize w8.heap.size = p4 at hS ⊢
  clear HS; have HS := Lib.hid hS; clear hS
  refine (of_st HS.out 0  rfl k11 k12).mono ?_
  rintro e w9 ⟨v9, rfl, hS⟩
  clear HS; have HS := Lib.hid hS; clear hS
  go_wp2_with (fail)
  refine (growX_st HS.out 8 65 rfl k13 k14).mono ?_
  rintro e w10 ⟨v10, rfl, hS⟩
  clear HS; have HS := Lib.hid hS; clear hS
  go_wp2_with (fail)
  refine (rect_st HS.out 0 4 0 2).mono ?_
  rintro e w11 ⟨rfl, hS⟩
  clear HS; have HS := Lib.hid hS; clear hS
  go_wp2_with (fail)
  refine (rect_st HS.out 0 6 2 4).mono ?_
  rintro e w12 ⟨rfl, hS⟩
  clear HS; have HS := Lib.hid hS; clear hS
  go_wp2_with (fail)
  generalize hW : World.alloc _ _ = W
  have hS : St w W ((.slice (some ⟨w12.heap.size, 0, none⟩) 2 2, [⟨0, 4, 0, 2⟩, ⟨0, 6, 2, 4⟩] ) :: [(v10, []), (v9, []), (.slice (some ⟨p4, 0, none⟩) 1 1, [⟨4, 4, 0, 4⟩]), (v7, [⟨1, 7, 1, 5⟩]), (v6, [⟨0, 8, 0, 4⟩]), (.slice (some ⟨p3, 0, none⟩) 2 2, [⟨4, 8, 0, 4⟩, qA]), (v5, [⟨0, 4, 0, 2⟩, ⟨0, 2, 2, 4⟩]), (v4, [⟨2, 4, 2, 4⟩]), (v3, [⟨0, 4, 0, 2⟩, ⟨0, 6, 2, 4⟩]), (.slice (some ⟨p2, 0, none⟩) 1 1, [qB]), (.slice (some ⟨p1, 0, none⟩) 1 1, [qA])]) := by rw [← hW]; exact HS.out.lit _ _ _ 2 rfl rfl (by omega)
  clear hW
  generalize w12.heap.size = p5 at hS ⊢
  clear HS; have HS := Lib.hid hS; clear hS
  refine (same_st (r := true) HS.out 9 0 rfl rfl (by decide)).mono ?_
  rintro e w13 ⟨rfl, hS⟩
  clear HS; have HS := Lib.hid hS; clear hS
  go_wp2_with (fail)
  refine (rect_st HS.out 2 4 2 4).mono ?_
  rintro e w14 ⟨rfl, hS⟩
  clear HS; have HS := Lib.hid hS; clear hS
  go_wp2_with (fail)
  generalize hW : World.alloc _ _ = W
  have hS : St w W ((.slice (some ⟨w14.heap.size, 0, none⟩) 1 1, [⟨2, 4, 2, 4⟩] ) :: [(.slice (some ⟨p5, 0, none⟩) 2 2, [⟨0, 4, 0, 2⟩, ⟨0, 6, 2, 4⟩] ), (v10, []), (v9, []), (.slice (some ⟨p4, 0, none⟩) 1 1, [⟨4, 4, 0, 4⟩]), (v7, [⟨1, 7, 1, 5⟩]), (v6, [⟨0, 8, 0, 4⟩]), (.slice (some ⟨p3, 0, none⟩) 2 2, [⟨4, 8, 0, 4⟩, qA]), (v5, [⟨0, 4, 0, 2⟩, ⟨0, 2, 2, 4⟩]), (v4, [⟨2, 4, 2, 4⟩]), (v3, [⟨0, 4, 0, 2⟩, ⟨0, 6, 2, 4⟩]), (.slice (some ⟨p2, 0, none⟩) 1 1, [qB]), (.slice (some ⟨p1, 0, none⟩) 1 1, [qA])]) := by rw [← hW]; exact HS.out.lit _ _ _ 1 rfl rfl (by omega)
  clear hW
  generalize w14.heap.size = p6 at hS ⊢
  clear HS; have HS := Lib.hid hS; clear hS
  refine (same_st (r := true) HS.out 9 0 rfl rfl (by decide)).mono ?_
  rintro e w15 ⟨rfl, hS⟩
  clear HS; have HS := Lib.hid hS; clear hS
  go_wp2_with (fail)
  refine (rect_st HS.out 0 4 0 2).mono ?_
  rintro e w16 ⟨rfl, hS⟩
  clear HS; have HS := Lib.hid hS; clear hS
  go_wp2_with (fail)
  refine (rect_st HS.out 0 2 2 4).mono ?_
  rintro e w17 ⟨rfl, hS⟩
  clear HS; have HS := Lib.hid hS; clear hS
  go_wp2_with (fail)
  generalize hW : World.alloc _ _ = W
  have hS : St w W ((.slice (some ⟨w17.heap.size, 0, none⟩) 2 2, [⟨0, 4, 0, 2⟩, ⟨0, 2, 2, 4⟩] ) :: [(.slice (some ⟨p6, 0, none⟩) 1 1, [⟨2, 4, 2, 4⟩] ), (.slice (some ⟨p5, 0, none⟩) 2 2, [⟨0, 4, 0, 2⟩, ⟨0, 6, 2, 4⟩] ), (v10, []), (v9, []), (.slice (some ⟨p4, 0, none⟩) 1 1, [⟨4, 4, 0, 4⟩]), (v7, [⟨1, 7, 1, 5⟩]), (v6, [⟨0, 8, 0, 4⟩]), (.slice (some ⟨p3, 0, none⟩) 2 2, [⟨4, 8, 0, 4⟩, qA]), (v5, [⟨0, 4, 0, 2⟩, ⟨0, 2, 2, 4⟩]), (v4, [⟨2, 4, 2, 4⟩]), (v3, [⟨0, 4, 0, 2⟩, ⟨0, 6, 2, 4⟩]), (.slice (some ⟨p2, 0, none⟩) 1 1, [qB]), (.slice (some ⟨p1, 0, none⟩) 1 1, [qA])]) := by rw [← hW]; exact HS.out.lit _ _ _ 2 rfl rfl (by omega)
  clear hW
  generalize w17.heap.size = p7 at hS ⊢
  clear HS; have HS := Lib.hid hS; clear hS
  refine (same_st (r := true) HS.out 9 0 rfl rfl (by decide)).mono ?_
  rintro e w18 ⟨rfl, hS⟩
  clear HS; have HS := Lib.hid hS; clear hS
  go_wp2_with (fail)
  refine (rect_st HS.out 0 8 0 4).mono ?_
  rintro e w19 ⟨rfl, hS⟩
  clear HS; have HS := Lib.hid hS; clear hS
  go_wp2_with (fail)
  generalize hW : World.alloc _ _ = W
  have hS : St w W ((.slice (some ⟨w19.heap.size, 0, none⟩) 1 1, [⟨0, 8, 0, 4⟩] ) :: [(.slice (some ⟨p7, 0, none⟩) 2 2, [⟨0, 4, 0, 2⟩, ⟨0, 2, 2, 4⟩] ), (.slice (some ⟨p6, 0, none⟩) 1 1, [⟨2, 4, 2, 4⟩] ), (.slice (some ⟨p5, 0, none⟩) 2 2, [⟨0, 4, 0, 2⟩, ⟨0, 6, 2, 4⟩] ), (v10, []), (v9, []), (.slice (some ⟨p4, 0, none⟩) 1 1, [⟨4, 4, 0, 4⟩]), (v7, [⟨1, 7, 1, 5⟩]), (v6, [⟨0, 8, 0, 4⟩]), (.slice (some ⟨p3, 0, none⟩) 2 2, [⟨4, 8, 0, 4⟩, qA]), (v5, [⟨0, 4, 0, 2⟩, ⟨0, 2, 2, 4⟩]), (v4, [⟨2, 4, 2, 4⟩]), (v3, [⟨0, 4, 0, 2⟩, ⟨0, 6, 2, 4⟩]), (.slice (some ⟨p2, 0, none⟩) 1 1, [qB]), (.slice (some ⟨p1, 0, none⟩) 1 1, [qA])]) := by rw [← hW]; exact HS.out.lit _ _ _ 1 rfl rfl (by omega)
  clear hW
  generalize w19.heap.size = p8 at hS ⊢
  clear HS; have HS := Lib.hid hS; clear hS
  refine (same_st (r := true) HS.out 8 0 rfl rfl (by decide)).mono ?_
  rintro e w20 ⟨rfl, hS⟩
  clear HS; have HS := Lib.hid hS; clear hS
  go_wp2_with (fail)
  refine (rect_st HS.out 1 7 1 5).mono ?_
  rintro e w21 ⟨rfl, hS⟩
  clear HS; have HS := Lib.hid hS; clear hS
  go_wp2_with (fail)
  generalize hW : World.alloc _ _ = W
  have hS : St w W ((.slice (some ⟨w21.heap.size, 0, none⟩) 1 1, [⟨1, 7, 1, 5⟩] ) :: [(.slice (some ⟨p8, 0, none⟩) 1 1, [⟨0, 8, 0, 4⟩] ), (.slice (some ⟨p7, 0, none⟩) 2 2, [⟨0, 4, 0, 2⟩, ⟨0, 2, 2, 4⟩] ), (.slice (some ⟨p6, 0, none⟩) 1 1, [⟨2, 4, 2, 4⟩] ), (.slice (some ⟨p5, 0, none⟩) 2 2, [⟨0, 4, 0, 2⟩, ⟨0, 6, 2, 4⟩] ), (v10, []), (v9, []), (.slice (some ⟨p4, 0, none⟩) 1 1, [⟨4, 4, 0, 4⟩]), (v7, [⟨1, 7, 1, 5⟩]), (v6, [⟨0, 8, 0, 4⟩]), (.slice (some ⟨p3, 0, none⟩) 2 2, [⟨4, 8, 0, 4⟩, qA]), (v5, [⟨0, 4, 0, 2⟩, ⟨0, 2, 2, 4⟩]), (v4, [⟨2, 4, 2, 4⟩]), (v3, [⟨0, 4, 0, 2⟩, ⟨0, 6, 2, 4⟩]), (.slice (some ⟨p2, 0, none⟩) 1 1, [qB]), (.slice (some ⟨p1, 0, none⟩) 1 1, [qA])]) := by rw [← hW]; exact HS.out.lit _ _ _ 1 rfl rfl (by omega)
  clear hW
  generalize w21.heap.size = p9 at hS ⊢
  clear HS; have HS := Lib.hid hS; clear hS
  refine (same_st (r := true) HS.out 8 0 rfl rfl (by decide)).mono ?_
  rintro e w22 ⟨rfl, hS⟩
  clear HS; have HS := Lib.hid hS; clear hS
  go_wp2_with (fail)
  refine (size_st HS.out 15 rfl k15).mono ?_
  rintro e w23 ⟨rfl, hS⟩
  clear HS; have HS := Lib.hid hS; clear hS
  go_wp2_with (fail)
  refine (size_st HS.out 14 rfl k16).mono ?_
  rintro e w24 ⟨rfl, hS⟩
  clear HS; have HS := Lib.hid hS; clear hS
  go_wp2_with (fail)
  refine (size_st HS.out 13 rfl k17).mono ?_
  rintro e w25 ⟨rfl, hS⟩
  clear HS; have HS := Lib.hid hS; clear hS
  go_wp2_with (fail)
  refine (hasA_st HS.out 15 3 3 rfl k18).mono ?_
  rintro e w26 ⟨rfl, hS⟩
  clear HS; have HS := Lib.hid hS; clear hS
  go_wp2_with (fail)
  refine (hasA_st HS.out 15 4 3 rfl k19).mono ?_
  rintro e w27 ⟨rfl, hS⟩
  clear HS; have HS := Lib.hid hS; clear hS
  go_wp2_with (fail)
  refine (within_st HS.out 12 15 rfl rfl k20).mono ?_
  rintro e w28 ⟨rfl, hS⟩
  clear HS; have HS := Lib.hid hS; clear hS
  go_wp2_with (fail)
  refine (within_st HS.out 15 12 rfl rfl k21).mono ?_
  rintro e w29 ⟨rfl, hS⟩
  clear HS; have HS := Lib.hid hS; clear hS
  go_wp2_with (fail)
  refine (valid_st HS.out 15 rfl k22).mono ?_
  rintro e w30 ⟨rfl, hS⟩
  clear HS; have HS := Lib.hid hS; clear hS
  go_wp2_with (fail)
  refine (rect_st HS.out 0 4 0 2).mono ?_
  rintro e w31 ⟨rfl, hS⟩
  clear HS; have HS := Lib.hid hS; clear hS
  go_wp2_with (fail)
  refine (rect_st HS.out 0 4 2 4).mono ?_
  rintro e w32 ⟨rfl, hS⟩
  clear HS; have HS := Lib.hid hS; clear hS
  go_wp2_with (fail)
  generalize hW : World.alloc _ _ = W
  have hS : St w W ((.slice (some ⟨w32.heap.size, 0, none⟩) 2 2, [⟨0, 4, 0, 2⟩, ⟨0, 4, 2, 4⟩]) :: [(.slice (some ⟨p9, 0, none⟩) 1 1, [⟨1, 7, 1, 5⟩] ), (.slice (some ⟨p8, 0, none⟩) 1 1, [⟨0, 8, 0, 4⟩] ), (.slice (some ⟨p7, 0, none⟩) 2 2, [⟨0, 4, 0, 2⟩, ⟨0, 2, 2, 4⟩] ), (.slice (some ⟨p6, 0, none⟩) 1 1, [⟨2, 4, 2, 4⟩] ), (.slice (some ⟨p5, 0, none⟩) 2 2, [⟨0, 4, 0, 2⟩, ⟨0, 6, 2, 4⟩] ), (v10, []), (v9, []), (.slice (some ⟨p4, 0, none⟩) 1 1, [⟨4, 4, 0, 4⟩]), (v7, [⟨1, 7, 1, 5⟩]), (v6, [⟨0, 8, 0, 4⟩]), (.slice (some ⟨p3, 0, none⟩) 2 2, [⟨4, 8, 0, 4⟩, qA]), (v5, [⟨0, 4, 0, 2⟩, ⟨0, 2, 2, 4⟩]), (v4, [⟨2, 4, 2, 4⟩]), (v3, [⟨0, 4, 0, 2⟩, ⟨0, 6, 2, 4⟩]), (.slice (some ⟨p2, 0, none⟩) 1 1, [qB]), (.slice (some ⟨p1, 0, none⟩) 1 1, [qA])]) := by rw [← hW]; exact HS.out.lit _ _ _ 2 rfl rfl (by omega)
  clear hW
  generalize w32.heap.size = p10 at hS ⊢
  clear HS; have HS := Lib.hid hS; clear hS
  refine (valid_st HS.out 0 rfl k23).mono ?_
  rintro e w33 ⟨rfl, hS⟩
  clear HS; have HS := Lib.hid hS; clear hS
  go_wp2_with (fail)
  refine (whole_st HS.out).mono ?_
  rintro e w34 ⟨v34, rfl, hS⟩
  clear HS; have HS := Lib.hid hS; clear hS
  go_wp2_with (fail)
  refine (rect_st HS.out 0 64 0 64).mono ?_
  rintro e w35 ⟨rfl, hS⟩
  clear HS; have HS := Lib.hid hS; clear hS
  go_wp2_with (fail)
  generalize hW : World.alloc _ _ = W
  have hS : St w W ((.slice (some ⟨w35.heap.size, 0, none⟩) 1 1, [⟨0, 64, 0, 64⟩]) :: [(v34, [whR]), (.slice (some ⟨p10, 0, none⟩) 2 2, [⟨0, 4, 0, 2⟩, ⟨0, 4, 2, 4⟩]), (.slice (some ⟨p9, 0, none⟩) 1 1, [⟨1, 7, 1, 5⟩] ), (.slice (some ⟨p8, 0, none⟩) 1 1, [⟨0, 8, 0, 4⟩] ), (.slice (some ⟨p7, 0, none⟩) 2 2, [⟨0, 4, 0, 2⟩, ⟨0, 2, 2, 4⟩] ), (.slice (some ⟨p6, 0, none⟩) 1 1, [⟨2, 4, 2, 4⟩] ), (.slice (some ⟨p5, 0, none⟩) 2 2, [⟨0, 4, 0, 2⟩, ⟨0, 6, 2, 4⟩] ), (v10, []), (v9, []), (.slice (some ⟨p4, 0, none⟩) 1 1, [⟨4, 4, 0, 4⟩]), (v7, [⟨1, 7, 1, 5⟩]), (v6, [⟨0, 8, 0, 4⟩]), (.slice (some ⟨p3, 0, none⟩) 2 2, [⟨4, 8, 0, 4⟩, qA]), (v5, [⟨0, 4, 0, 2⟩, ⟨0, 2, 2, 4⟩]), (v4, [⟨2, 4, 2, 4⟩]), (v3, [⟨0, 4, 0, 2⟩, ⟨0, 6, 2, 4⟩]), (.slice (some ⟨p2, 0, none⟩) 1 1, [qB]), (.slice (some ⟨p1, 0, none⟩) 1 1, [qA])]) := by rw [← hW]; exact HS.out.lit _ _ _ 1 rfl rfl (by omega)
  clear hW
  generalize w35.heap.size = p11 at hS ⊢
  clear HS; have HS := Lib.hid hS; clear hS
  refine (same_st (r := true) HS.out 1 0 rfl rfl (by decide)).mono ?_
  rintro e w36 ⟨rfl, hS⟩
  clear HS; have HS := Lib.hid hS; clear hS
  go_wp2_with (fail)
  go_ret
  exact ⟨rfl, HS.out.bel⟩
theorem sane_st {w0 w : World} {ps : List (Value × List Rct)} (S : St w0 w ps) : Calls Tryd.prog 9 #[] w fun e w' => e = .returned (.bool true) ∧ St w0 w' ps :=
  (sane_any w S.tab).mono fun _ _ ⟨he, hb⟩ => ⟨he, S.still hb⟩
end Go.Proofs.YtplamgmmncenjaaDoorR
