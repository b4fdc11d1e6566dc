/- Walks of package area: open, area, Valid, Of. -/
import Derived.Test.YtplamgmmncenjaaDoorRW5
namespace Go.Proofs.YtplamgmmncenjaaDoorR
open Go.RowKit
def validL (l : List Rct) : Bool := decide (l.length ≤ 100) && (allOk l && decide (rectsG (setL l) = l))
def openV (l : List Rct) : Grd := if validL l then setL l else g0
theorem openV_ok (l : List Rct) : (openV l).ok := by
  unfold openV
  split
  · rename_i h
    simp only [validL, Bool.and_eq_true] at h
    exact setL_ok h.2.1
  · exact g0_ok
theorem setV_ok (l : List Rct) : (setV l).ok := by
  unfold setV
  split
  · rename_i h; exact setL_ok h
  · exact g0_ok
theorem len_cmp {n : Nat} (h : n ≤ 100) : ((n : Int) ≤ 100) := by omega
set_option maxRecDepth 100000 in
set_option maxHeartbeats 1000000 in
/-- open -/
theorem open_any (l : List Rct) (v : Value) (w : World) (h : SlR w v l) (hT : HasTab w) :
    Calls Tryd.prog 37 #[v] w fun e w' => e = .returned (.tuple #[.agg (gcells (openV l)), .bool (validL l)]) ∧ Below w.heap.size w w' := by
  obtain ⟨A, c, rfl, hlc, m1, f1⟩ := h.form
  have hl1 : l.length ≤ 9223372036854775807 := by unfold maxLen at m1; omega
  have HS := Lib.hid h
  clear h m1 f1 hlc
  have u62 := Tryd.underlying62
  obtain ⟨n, hn⟩ : ∃ n, n = l.length := ⟨_, rfl⟩
  rw [← hn] at hl1
  have hss : SlR w (.slice A n c) l := by rw [hn]; exact HS.out
  have HSS := Lib.hid hss
  have HN := Lib.hid hn
  have HT := Lib.hid hT
  rw [← hn]
  clear hn hss HS hT
  by_cases hlen : (100 : Int) < (n : Int)
  · have e2 : validL l = false := by unfold validL; rw [df (by rw [← HN.out]; omega)]; rfl
    have e3 : openV l = g0 := by unfold openV; rw [if_neg (by rw [e2]; exact Bool.false_ne_true)]
    have HE2 := Lib.hid e2
    have HE3 := Lib.hid e3
    clear e2 e3
    go_enter Tryd.func37, Tryd.ntmps37
    go_wp2_with (refine wpList_store_row rfl 62 _ _ rfl w.heap.size (gcells g0) (by rfl) (by rfl) 62 (gcells g0) (Blk.new w _ _) (grid_size _) (by rw [gcells_size]) (gcells_one _) ?_)
    rw [HE2.out, HE3.out]
    refine bodyPost_ret (results_cell_tmp rfl _ _ w.heap.size 62 (gcells g0) _ rfl ((Blk.new w _ (gcells g0)).row_same _) Tryd.underlying62 rfl (grid_size _)) rfl ⟨rfl, below_setRow ((Below.refl _ _).alloc (Nat.le_refl _) _) (Nat.le_refl _) _⟩
  · have hss1 : SlR (w.alloc (.cells (gcells g0) 62)) (.slice A n c) l := HSS.out.below ((Below.refl _ _).alloc (Nat.le_refl _) _)
    have HS1 := Lib.hid hss1
    clear hss1
    by_cases hok : allOk l = true
    · have e0 : setV l = setL l := by unfold setV; rw [if_pos hok]
      have HE0 := Lib.hid e0
      clear e0
      go_enter Tryd.func37, Tryd.ntmps37
      go_wp2_with (first | (go_at_call 40; rw [← gcells0]; refine (set_any l _ _ HS1.out).mono ?_; rintro e w1 ⟨rfl, hb1⟩) | (refine wpList_store_row rfl 62 _ _ rfl _ (gcells (setV l)) (by rfl) (by rfl) 62 (gcells g0) (Blk.new _ _ _) (grid_size _) (by rw [gcells_size, gcells_size]) (gcells_one _) ?_))
      have hbl : Blk w1 w.heap.size 62 (gcells g0) := (Blk.new w _ _).below hb1 (by simp)
      have hbb : Below w.heap.size w w1 := ((Below.refl _ _).alloc (Nat.le_refl _) _).trans (hb1.mono (by simp))
      have HBB := Lib.hid hbb
      generalize hW2 : World.setRow _ _ _ = W2
      have b4 : Blk W2 w1.heap.size 62 (gcells (setV l)) := by rw [← hW2]; exact (Blk.new w1 _ (gcells g0)).row_same _
      have b2 : Blk W2 w.heap.size 62 (gcells g0) := by rw [← hW2]; exact (hbl.alloc _).row_far (by have := hbl.lt; omega) _
      have bw : Below w.heap.size w W2 := by
        rw [← hW2]; exact below_setRow (hbb.alloc hbb.size _) hbb.size _
      have hT2 := HT.out.below bw
      have hS2 := HSS.out.below bw
      have hlt2 : w.heap.size < W2.heap.size := b2.lt
      have hlt4 : w1.heap.size < W2.heap.size := b4.lt
      have B4 := Lib.hid b4
      have B2 := Lib.hid b2
      have HT2 := Lib.hid hT2
      have HS2 := Lib.hid hS2
      clear hW2 b4 b2 hT2 hS2 hbl hb1 hbb
      refine (rects_any w1.heap.size (setV l) (setV_ok l) W2 B4.out HT2.out).mono ?_
      rintro e W3 ⟨v3, rfl, hs3, hb3⟩
      have hS3 : SlR W3 v3 (rectsG (setV l)) := hs3
      have hS3' : SlR W3 (.slice A n c) l := HS2.out.below hb3
      have B43 := Lib.hid (B4.out.below hb3 hlt4)
      have B23 := Lib.hid (B2.out.below hb3 hlt2)
      have bw3 := bw.trans (hb3.mono bw.size)
      have HS3 := Lib.hid hS3
      have HS3' := Lib.hid hS3'
      clear hS3 hS3' hs3 hb3 bw
      by_cases heq : rectsG (setV l) = l
      · have hd : decide (rectsG (setV l) = l) = true := by simp [heq]
        have HEQ := Lib.hid heq
        clear heq
        go_wp2_with (first | (go_at_call 47; refine (equal_any (rectsG (setV l)) l _ _ _ HS3.out HS3'.out).mono ?_; rintro e w' ⟨rfl, n4, rfl⟩) | (refine wpList_load_row rfl 62 _ rfl w1.heap.size (by rfl) 62 (gcells (setV l)) (0, 0) _ (B43.out.drewN n4) Tryd.underlying62 rfl (grid_size _) ?_) | (refine wpList_store_row rfl 62 _ _ rfl w.heap.size (gcells (setV l)) (by rfl) (by rfl) 62 (gcells g0) (B23.out.drewN n4) (grid_size _) (by rw [gcells_size, gcells_size]) (gcells_one _) ?_))
        have e2 : validL l = true := by
          unfold validL; rw [dt (by rw [← HN.out]; omega), hok, dt (by rw [← HE0.out]; exact HEQ.out)]; rfl
        have e3 : openV l = setV l := by unfold openV; rw [if_pos e2, HE0.out]
        refine bodyPost_ret (results_cell_tmp rfl _ _ w.heap.size 62 (gcells (setV l)) _ rfl ((B23.out.drewN n4).row_same _) Tryd.underlying62 rfl (grid_size _)) rfl ⟨?_, below_setRow (below_drewN bw3 n4) (Nat.le_refl _) _⟩
        rw [e2, e3]; rfl
      · have hd : decide (rectsG (setV l) = l) = false := by simp [heq]
        have HEQ := Lib.hid heq
        clear heq
        go_wp2_with (first | (go_at_call 47; refine (equal_any (rectsG (setV l)) l _ _ _ HS3.out HS3'.out).mono ?_; rintro e w' ⟨rfl, n4, rfl⟩) | (refine wpList_store_row rfl 62 _ _ rfl w.heap.size (gcells g0) (by rfl) (by rfl) 62 (gcells g0) (B23.out.drewN n4) (grid_size _) (by rw [gcells_size]) (gcells_one _) ?_))
        have e2 : validL l = false := by
          unfold validL; rw [df (p := rectsG (setL l) = l) (by rw [← HE0.out]; exact HEQ.out)]; simp
        have e3 : openV l = g0 := by unfold openV; rw [if_neg (by rw [e2]; exact Bool.false_ne_true)]
        refine bodyPost_ret (results_cell_tmp rfl _ _ w.heap.size 62 (gcells g0) _ rfl ((B23.out.drewN n4).row_same _) Tryd.underlying62 rfl (grid_size _)) rfl ⟨?_, below_setRow (below_drewN bw3 n4) (Nat.le_refl _) _⟩
        rw [e2, e3]; rfl
    · have hok' : allOk l = false := by simpa using hok
      clear hok
      go_enter Tryd.func37, Tryd.ntmps37
      go_wp2_with (first | (go_at_call 40; rw [← gcells0]; refine (set_any l _ _ HS1.out).mono ?_; rintro e w1 ⟨rfl, hb1⟩; have hne : w.heap.size ≠ w1.heap.size := by have h9 := hb1.size; simp at h9; omega) | (refine wpList_store_row rfl 62 _ _ rfl _ (gcells (setV l)) (by rfl) (by rfl) 62 (gcells g0) (Blk.new _ _ _) (grid_size _) (by rw [gcells_size, gcells_size]) (gcells_one _) ?_) | (refine wpList_store_row rfl 62 _ _ rfl w.heap.size (gcells g0) (by rfl) (by rfl) 62 (gcells g0) ((((Blk.new w _ (gcells g0)).below hb1 (by simp)).alloc _).row_far hne _) (grid_size _) (by rw [gcells_size]) (gcells_one _) ?_))
      have e2 : validL l = false := by unfold validL; rw [hok']; simp
      have e3 : openV l = g0 := by unfold openV; rw [if_neg (by rw [e2]; exact Bool.false_ne_true)]
      have hbb : Below w.heap.size w w1 := ((Below.refl _ _).alloc (Nat.le_refl _) _).trans (hb1.mono (by simp))
      refine bodyPost_ret (results_cell_tmp rfl _ _ w.heap.size 62 (gcells g0) _ rfl (((((Blk.new w _ (gcells g0)).below hb1 (by simp)).alloc _).row_far hne _).row_same _) Tryd.underlying62 rfl (grid_size _)) rfl ⟨?_, below_setRow (below_setRow (hbb.alloc hbb.size _) hbb.size _) (Nat.le_refl _) _⟩
      rw [e2, e3]; rfl
def areaL (g : Grd) : List Rct := if 100 < (rectsG g).length then [] else rectsG g
def areaE (g : Grd) : Int := if 100 < (rectsG g).length then 290 else 0
set_option maxHeartbeats 1000000 in
/-- area -/
theorem area_any (b : Nat) (g : Grd) (hg : g.ok) (w : World) (hb : Blk w b 62 (gcells g)) (hT : HasTab w) :
    Calls Tryd.prog 36 #[.pointer (some ⟨b, 0, none⟩)] w fun e w' => ∃ v, e = .returned (.tuple #[v, .int .i64 (areaE g)]) ∧ SlR w' v (areaL g) ∧ Below w.heap.size w w' := by
  have hlb : (rectsG g).length ≤ 4096 := by have := rectsTo_len g 64; unfold rectsG; omega
  have HB := Lib.hid hb
  have HT := Lib.hid hT
  obtain ⟨rs, hrs⟩ : ∃ rs, rs = rectsG g := ⟨_, rfl⟩
  rw [← hrs] at hlb
  have HRS := Lib.hid hrs
  clear hb hT hrs
  by_cases hlt : (100 : Int) < (rs.length : Int)
  all_goals
    go_enter Tryd.func36, Tryd.ntmps36
    go_wp2_with (go_at_call 46; refine (rects_any b g hg w HB.out HT.out).mono ?_; rintro e w1 ⟨v, rfl, hs, hb1⟩; rw [← HRS.out] at hs; obtain ⟨A, c, rfl, hc1, hc2, hf⟩ := SlR.form hs; have HSS := Lib.hid hs; clear hs hf)
  · go_ret2
    refine ⟨.slice none 0 0, ?_, ?_, hb1⟩
    · have e : areaE g = 290 := by unfold areaE; rw [if_pos (by rw [← HRS.out]; omega)]
      rw [e]; rfl
    · have e : areaL g = [] := by unfold areaL; rw [if_pos (by rw [← HRS.out]; omega)]
      rw [e]; exact Sl.nil _ _
  · go_ret2
    refine ⟨.slice A rs.length c, ?_, ?_, hb1⟩
    · have e : areaE g = 0 := by unfold areaE; rw [if_neg (by rw [← HRS.out]; omega)]
      rw [e]; rfl
    · have e : areaL g = rs := by unfold areaL; rw [if_neg (by rw [← HRS.out]; omega), HRS.out]
      rw [e]; exact HSS.out
end Go.Proofs.YtplamgmmncenjaaDoorR
