/- Walks of the reference: One, List. -/
import Derived.Test.YtplamgmmncenjaaDoorRW11
import Derived.Test.YtplamgmmncenjaaDoorRR2
namespace Go.Proofs.YtplamgmmncenjaaDoorR
open Go.RowKit Go.Shelf
structure Q4 where
  a : Int
  b : Int
  c : Int
  d : Int
deriving Inhabited
def Q4.ok (x : Q4) : Prop := isInt x.a ∧ isInt x.b ∧ isInt x.c ∧ isInt x.d
def oneL (x : Q4) : Rct := ⟨pickI x.a 15, pickI x.a 15 + 1 + pickI x.c (16 - pickI x.a 15), pickI x.b 15, pickI x.b 15 + 1 + pickI x.d (16 - pickI x.b 15)⟩
def oneQ (x : Q4) : Rct := if pickI (x.a.tdiv 16) 8 = 7 then ⟨4 * (oneL x).l, 4 * (oneL x).r, 4 * (oneL x).lo, 4 * (oneL x).hi⟩ else oneL x
theorem oneL_bound (x : Q4) : 0 ≤ (oneL x).l ∧ (oneL x).l < (oneL x).r ∧ (oneL x).r ≤ 16 ∧ 0 ≤ (oneL x).lo ∧ (oneL x).lo < (oneL x).hi ∧ (oneL x).hi ≤ 16 := by
  have h1 := pickI_range (c := x.a) (n := 15) (by omega)
  have h2 := pickI_range (c := x.b) (n := 15) (by omega)
  have h3 := pickI_range (c := x.c) (n := 16 - pickI x.a 15) (by omega)
  have h4 := pickI_range (c := x.d) (n := 16 - pickI x.b 15) (by omega)
  unfold oneL
  dsimp only
  omega
theorem oneQ_ok (x : Q4) : okR (oneQ x) = true := by
  have := oneL_bound x
  unfold oneQ okR
  rw [decide_eq_true_eq]
  split
  · dsimp only
    omega
  · omega
theorem tdiv16 {a : Int} (h : isInt a) : isInt (a.tdiv 16) := by
  obtain ⟨h0, h1⟩ := h
  unfold isInt
  rw [tdiv_eq_if]
  split <;> omega
set_option maxRecDepth 100000 in
set_option maxHeartbeats 2000000 in
theorem one_any (x : Q4) (hx : x.ok) (w : World) :
    Calls Tryd.prog 29 #[.agg #[.int .i64 x.a, .int .i64 x.b, .int .i64 x.c, .int .i64 x.d]] w fun e w' =>
      e = .returned (.agg #[.int .i64 (oneQ x).l, .int .i64 (oneQ x).r, .int .i64 (oneQ x).lo, .int .i64 (oneQ x).hi]) ∧ Below w.heap.size w w' := by
  obtain ⟨ha, hb, hc, hd⟩ := hx
  obtain ⟨a0, a1⟩ := ha
  have HA := Lib.hid (show isInt x.a from ⟨a0, a1⟩)
  have HB := Lib.hid hb
  have HC := Lib.hid hc
  have HD := Lib.hid hd
  clear hb hc hd
  go_enter Tryd.func29, Tryd.ntmps29
  go_wp2_with (fail)
  refine (pickB_any x.a 15 HA.out (by omega) (by omega) _).mono ?_
  rintro e w1 ⟨rfl, rfl⟩
  obtain ⟨l, hl⟩ : ∃ l, l = pickI x.a 15 := ⟨_, rfl⟩
  have l0 := pickI_range (c := x.a) (n := 15) (by omega)
  rw [← hl] at l0 ⊢
  obtain ⟨l0, l1⟩ := l0
  have HL := Lib.hid hl
  clear hl
  go_wp2_with (fail)
  refine (pickB_any x.b 15 HB.out (by omega) (by omega) _).mono ?_
  rintro e w1 ⟨rfl, rfl⟩
  obtain ⟨b, hb⟩ : ∃ l, l = pickI x.b 15 := ⟨_, rfl⟩
  have b0 := pickI_range (c := x.b) (n := 15) (by omega)
  rw [← hb] at b0 ⊢
  obtain ⟨b0, b1⟩ := b0
  have HBB := Lib.hid hb
  clear hb
  go_wp2
  obtain ⟨c, hc⟩ : ∃ u, u = pickI x.c (16 - l) := ⟨_, rfl⟩
  have c0 := pickI_range (c := x.c) (n := 16 - l) (by omega)
  rw [← hc] at c0
  obtain ⟨c0, c1⟩ := c0
  obtain ⟨d, hd⟩ : ∃ u, u = pickI x.d (16 - b) := ⟨_, rfl⟩
  have d0 := pickI_range (c := x.d) (n := 16 - b) (by omega)
  rw [← hd] at d0
  obtain ⟨d0, d1⟩ := d0
  have kc : ∀ W, Calls Tryd.prog 42 #[.int .i64 x.c, .int .i64 (16 - l)] W fun e w' => e = .returned (.int .i64 c) ∧ W = w' := fun W => by rw [hc]; exact pickB_any x.c (16 - l) HC.out (by omega) (by omega) W
  have kd : ∀ W, Calls Tryd.prog 42 #[.int .i64 x.d, .int .i64 (16 - b)] W fun e w' => e = .returned (.int .i64 d) ∧ W = w' := fun W => by rw [hd]; exact pickB_any x.d (16 - b) HD.out (by omega) (by omega) W
  have KC := Lib.hid kc
  have KD := Lib.hid kd
  have HCC := Lib.hid hc
  have HDD := Lib.hid hd
  clear kc kd hc hd
  generalize hW : World.alloc (World.alloc w _) _ = W
  have xc : W.cell? ⟨w.heap.size, 2, none⟩ = some (.int .i64 x.c) := by rw [← hW]; exact ((Blk.new w _ _).alloc _).cell 2
  have xd : W.cell? ⟨w.heap.size, 3, none⟩ = some (.int .i64 x.d) := by rw [← hW]; exact ((Blk.new w _ _).alloc _).cell 3
  have br : Blk W (w.heap.size + 1) 36 #[.int .i64 0, .int .i64 0, .int .i64 0, .int .i64 0] := by
    rw [← hW]
    have := Blk.new (w.alloc (.cells #[.int .i64 x.a, .int .i64 x.b, .int .i64 x.c, .int .i64 x.d] 56)) 36 #[.int .i64 0, .int .i64 0, .int .i64 0, .int .i64 0]
    rwa [World.size_alloc] at this
  have hbw : Below w.heap.size w W := by rw [← hW]; exact ((Below.refl _ _).alloc (Nat.le_refl _) _).alloc (by simp) _
  have hwl : w.heap.size + 1 < W.heap.size := br.lt
  have xa : W.cell? ⟨w.heap.size, 0, none⟩ = some (.int .i64 x.a) := by rw [← hW]; exact ((Blk.new w _ _).alloc _).cell 0
  refine region_two_lit 19 (.cells #[.int .i64 0, .int .i64 0, .int .i64 0, .int .i64 0] 36) _ (.pointer (some ⟨W.heap.size, 0, none⟩)) (by kernel_rfl) (by kernel_rfl) (by rfl) (by rfl) (by kernel_rfl) ?_
  simp only [List.take_succ_cons, List.take_zero, List.drop_succ_cons, List.drop_zero]
  iterate 7 (go_big_quiet_step (fail))
  go_big_quiet_step (exact quiet_same (KC.out _))
  iterate 8 (go_big_quiet_step (fail))
  go_big_quiet_step (exact quiet_same (KD.out _))
  iterate 2 (go_big_quiet_step (fail))
  refine wpQuiet_nil ⟨?_, ?_, ?_⟩
  · generalize hW2 : World.alloc W _ = W2
    have yc : W2.cell? ⟨w.heap.size, 2, none⟩ = some (.int .i64 x.c) := by rw [← hW2]; exact (World.cell?_alloc_lt W _ _ (cell_lt xc)).trans xc
    have yd : W2.cell? ⟨w.heap.size, 3, none⟩ = some (.int .i64 x.d) := by rw [← hW2]; exact (World.cell?_alloc_lt W _ _ (cell_lt xd)).trans xd
    clear xc xd xa hW hW2
    iterate 7 (go_big_quiet_step (fail))
    go_big_quiet_step (exact quiet_same (KC.out _))
    iterate 8 (go_big_quiet_step (fail))
    go_big_quiet_step (exact quiet_same (KD.out _))
    iterate 2 (go_big_quiet_step (fail))
    exact wpQuiet_nil rfl
  · intro n
    go_simp
    rfl
  · intro _ hw'
    obtain ⟨nq, hw''⟩ := hw'
    subst hw''
    clear xc xd hW
    simp only [Act.put, List.setIfInBounds_toArray, List.set_cons_succ, List.set_cons_zero]
    have b5 : Blk ((W.alloc (.cells #[.int .i64 0, .int .i64 0, .int .i64 0, .int .i64 0] 36)).drewN nq) W.heap.size 36 #[.int .i64 0, .int .i64 0, .int .i64 0, .int .i64 0] := (Blk.new W _ _).drewN nq
    have br2 := (br.alloc (.cells #[.int .i64 0, .int .i64 0, .int .i64 0, .int .i64 0] 36)).drewN nq
    have xa2 : ((W.alloc (.cells #[.int .i64 0, .int .i64 0, .int .i64 0, .int .i64 0] 36)).drewN nq).cell? ⟨w.heap.size, 0, none⟩ = some (.int .i64 x.a) := (World.cell?_alloc_lt W _ _ (cell_lt xa)).trans xa
    have hb2 : Below w.heap.size w ((W.alloc (.cells #[.int .i64 0, .int .i64 0, .int .i64 0, .int .i64 0] 36)).drewN nq) := below_drewN (hbw.alloc hbw.size _) nq
    clear br xa hbw
    obtain ⟨g5, hg5⟩ : ∃ g, g = W.heap.size := ⟨_, rfl⟩
    rw [← hg5] at b5 hwl ⊢
    generalize World.drewN _ nq = W2 at b5 br2 xa2 hb2 ⊢
    clear hg5
    refine wpList_store_row rfl 36 _ _ rfl g5 #[.int .i64 l, .int .i64 (l + 1 + c), .int .i64 b, .int .i64 (b + 1 + d)] (by rfl) (by rfl) 36 _ b5 (by kernel_rfl) (by rfl) (by simp [Value.oneCell']) ?_
    generalize hW3 : World.setRow _ _ _ = W3
    have b5' : Blk W3 g5 36 #[.int .i64 l, .int .i64 (l + 1 + c), .int .i64 b, .int .i64 (b + 1 + d)] := by rw [← hW3]; exact b5.row_same _
    have br3 : Blk W3 (w.heap.size + 1) 36 #[.int .i64 0, .int .i64 0, .int .i64 0, .int .i64 0] := by rw [← hW3]; exact br2.row_far (by omega) _
    have hb3 : Below w.heap.size w W3 := by rw [← hW3]; exact below_setRow hb2 (by omega) _
    have xa3 : W3.cell? ⟨w.heap.size, 0, none⟩ = some (.int .i64 x.a) := by rw [← hW3]; exact (World.cell?_of_block (w := W2) (a := ⟨w.heap.size, 0, none⟩) (heap_setRow_other W2 g5 w.heap.size _ (by omega))).trans xa2
    have t0 := tdiv16 HA.out
    obtain ⟨f, hf⟩ : ∃ f, f = pickI (x.a.tdiv 16) 8 := ⟨_, rfl⟩
    have HF := Lib.hid hf
    clear hf hb2 xa2 br2 b5 hW3
    have c1' := b5'.cell 0
    have c2' := b5'.cell 1
    have c3' := b5'.cell 2
    have c4' := b5'.cell 3
    simp only [List.getElem?_toArray, List.getElem?_cons_zero, List.getElem?_cons_succ] at c1' c2' c3' c4'
    have B5 := Lib.hid b5'
    have BR3 := Lib.hid br3
    have HB3 := Lib.hid hb3
    have T0 := Lib.hid t0
    clear b5' br3 hb3 t0
    go_wp2_with (fail)
    refine (pickB_any (x.a.tdiv 16) 8 T0.out (by omega) (by omega) _).mono ?_
    rintro e w1 ⟨rfl, rfl⟩
    rw [← HF.out]
    have e5 : g5 ≠ w.heap.size + 1 := by omega
    by_cases hf7 : f = 7
    · have e1 : oneQ x = ⟨4 * l, 4 * (l + 1 + c), 4 * b, 4 * (b + 1 + d)⟩ := by
        unfold oneQ oneL
        rw [← HF.out, if_pos hf7, ← HL.out, ← HBB.out, ← HCC.out, ← HDD.out]
      have E1 := Lib.hid e1
      clear e1
      go_wp2_with (first | (refine wpList_store_row rfl 36 _ _ rfl g5 #[.int .i64 (4 * l), .int .i64 (4 * (l + 1 + c)), .int .i64 (4 * b), .int .i64 (4 * (b + 1 + d))] (by rfl) (by rfl) 36 _ B5.out (by kernel_rfl) (by rfl) (by simp [Value.oneCell']) ?_) | (refine wpList_load_row rfl 36 _ rfl g5 (by rfl) 36 #[.int .i64 (4 * l), .int .i64 (4 * (l + 1 + c)), .int .i64 (4 * b), .int .i64 (4 * (b + 1 + d))] (0, 0) _ (B5.out.row_same _) rect_ht rfl (by kernel_rfl) ?_) | (refine wpList_store_row rfl 36 _ _ rfl (w.heap.size + 1) #[.int .i64 (4 * l), .int .i64 (4 * (l + 1 + c)), .int .i64 (4 * b), .int .i64 (4 * (b + 1 + d))] (by rfl) (by rfl) 36 _ (BR3.out.row_far (Ne.symm e5) _) (by kernel_rfl) (by rfl) (by simp [Value.oneCell']) ?_))
      refine bodyPost_ret (results_cell_row rfl _ _ (w.heap.size + 1) 36 _ (0, 0) _ rfl ((BR3.out.row_far (Ne.symm e5) _).row_same _) rect_ht rfl (by kernel_rfl)) rfl ⟨by rw [E1.out], below_setRow (below_setRow HB3.out (by omega) _) (by omega) _⟩
    · have e1 : oneQ x = ⟨l, l + 1 + c, b, b + 1 + d⟩ := by
        unfold oneQ oneL
        rw [← HF.out, if_neg hf7, ← HL.out, ← HBB.out, ← HCC.out, ← HDD.out]
      have E1 := Lib.hid e1
      clear e1
      go_wp2_with (refine wpList_store_row rfl 36 _ _ rfl (w.heap.size + 1) #[.int .i64 l, .int .i64 (l + 1 + c), .int .i64 b, .int .i64 (b + 1 + d)] (by rfl) (by rfl) 36 _ BR3.out (by kernel_rfl) (by rfl) (by simp [Value.oneCell']) ?_)
      refine bodyPost_ret (results_cell_row rfl _ _ (w.heap.size + 1) 36 _ (0, 0) _ rfl (BR3.out.row_same _) rect_ht rfl (by kernel_rfl)) rfl ⟨by rw [E1.out], below_setRow HB3.out (by omega) _⟩
end Go.Proofs.YtplamgmmncenjaaDoorR
