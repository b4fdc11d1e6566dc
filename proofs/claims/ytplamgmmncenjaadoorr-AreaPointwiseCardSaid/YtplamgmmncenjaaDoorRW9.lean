/- Walks of package area: Grow, Of. -/
import Derived.Test.YtplamgmmncenjaaDoorRW8
import Derived.Lib.MinMax
namespace Go.Proofs.YtplamgmmncenjaaDoorR
open Go.RowKit
def growR (d : Int) (q : Rct) : Rct := ⟨max (q.l - d) 0, min (q.r + d) 64, max (q.lo - d) 0, min (q.hi + d) 64⟩
theorem growR_ok {d : Int} (hd : 0 ≤ d) {q : Rct} (h : okR q = true) : okR (growR d q) = true := by
  have := okR_parts h
  unfold okR growR
  rw [decide_eq_true_eq]
  dsimp only
  omega
theorem allOk_take {l : List Rct} (h : allOk l = true) (k : Nat) : allOk (l.take k) = true := by
  unfold allOk at *
  rw [List.all_eq_true] at *
  exact fun x hx => h x (List.mem_of_mem_take hx)
theorem allOk_getD {l : List Rct} (h : allOk l = true) {k : Nat} (hk : k < l.length) : okR (l.getD k default) = true := by
  unfold allOk at h
  rw [List.all_eq_true] at h
  refine h _ ?_
  simp [List.getD, hk]
theorem allOk_map {l : List Rct} (h : allOk l = true) {d : Int} (hd : 0 ≤ d) : allOk (l.map (growR d)) = true := by
  unfold allOk at *
  rw [List.all_eq_true] at *
  intro x hx
  obtain ⟨y, hy, rfl⟩ := List.mem_map.1 hx
  exact growR_ok hd (h y hy)
theorem valid_allOk {l : List Rct} (h : validL l = true) : allOk l = true := by
  simp only [validL, Bool.and_eq_true] at h; exact h.2.1
def growL (a : List Rct) (d : Int) : List Rct := if validL a && decide (0 ≤ d ∧ d ≤ 64) then areaL (setL (a.map (growR d))) else []
def growE (a : List Rct) (d : Int) : Int := if validL a && decide (0 ≤ d ∧ d ≤ 64) then areaE (setL (a.map (growR d))) else 290
set_option maxRecDepth 100000 in
set_option maxHeartbeats 2000000 in
/-- Grow -/
theorem grow_any (a : List Rct) (d : Int) (v : Value) (w : World) (h : SlR w v a) (hT : HasTab w) :
    Calls Tryd.prog 15 #[v, .int .i64 d] w fun e w' => ∃ v, e = .returned (.tuple #[v, .int .i64 (growE a d)]) ∧ SlR w' v (growL a d) ∧ Below w.heap.size w w' := by
  have H := Lib.hid h
  have HT := Lib.hid hT
  obtain ⟨A, c, rfl, hac, hcm, hf⟩ := h.form
  have HF := Lib.hid hf
  have hal : a.length ≤ 9223372036854775807 := by unfold maxLen at hcm; omega
  clear h hT hf hac hcm
  by_cases hv : validL a = true
  · have hok := valid_allOk hv
    have HOK := Lib.hid hok
    clear hok
    by_cases hd0 : d < 0
    · have e1 : growE a d = 290 := by unfold growE; rw [df (by omega)]; simp
      have e2 : growL a d = [] := by unfold growL; rw [df (by omega)]; simp
      have HE1 := Lib.hid e1
      have HE2 := Lib.hid e2
      clear e1 e2
      go_enter Tryd.func15, Tryd.ntmps15
      go_wp2_with (go_at_call 16; refine (valid_any a _ w H.out HT.out).mono ?_; rintro e w1 ⟨rfl, hb1⟩)
      go_ret2
      exact ⟨.slice none 0 0, by rw [HE1.out]; rfl, by rw [HE2.out]; exact Sl.nil _ _, hb1⟩
    · by_cases hd1 : 64 < d
      · have e1 : growE a d = 290 := by unfold growE; rw [df (by omega)]; simp
        have e2 : growL a d = [] := by unfold growL; rw [df (by omega)]; simp
        have HE1 := Lib.hid e1
        have HE2 := Lib.hid e2
        clear e1 e2
        go_enter Tryd.func15, Tryd.ntmps15
        go_wp2_with (go_at_call 16; refine (valid_any a _ w H.out HT.out).mono ?_; rintro e w1 ⟨rfl, hb1⟩)
        go_ret2
        exact ⟨.slice none 0 0, by rw [HE1.out]; rfl, by rw [HE2.out]; exact Sl.nil _ _, hb1⟩
      · have e1 : growE a d = areaE (setL (a.map (growR d))) := by unfold growE; rw [hv, dt (by omega)]; rfl
        have e2 : growL a d = areaL (setL (a.map (growR d))) := by unfold growL; rw [hv, dt (by omega)]; rfl
        have HE1 := Lib.hid e1
        have HE2 := Lib.hid e2
        clear e1 e2
        have d0 : 0 ≤ d := by omega
        have d1 : d ≤ 64 := by omega
        clear hd0 hd1
        obtain ⟨n, hn⟩ : ∃ n, n = a.length := ⟨_, rfl⟩
        rw [← hn] at hal ⊢
        have HN := Lib.hid hn
        clear hn
        have hss : SlR w (.slice A n c) a := by rw [HN.out]; exact H.out
        have HS := Lib.hid hss
        clear hss
        go_enter Tryd.func15, Tryd.ntmps15
        go_wp2_with (go_at_call 16; refine (valid_any a _ w HS.out HT.out).mono ?_; rintro e w1 ⟨rfl, hb1⟩)
        rw [← gcells0]
        generalize hW0 : World.alloc _ _ = W0
        have b1 : Blk W0 w1.heap.size 62 (gcells g0) := by rw [← hW0]; exact Blk.new _ _ _
        have bb : Below w.heap.size w W0 := by rw [← hW0]; exact hb1.alloc hb1.size _
        have hp : w.heap.size ≤ w1.heap.size := hb1.size
        obtain ⟨p, hpp⟩ : ∃ p, p = w1.heap.size := ⟨_, rfl⟩
        rw [← hpp] at b1 hp ⊢
        have B1 := Lib.hid b1
        clear hW0 b1 hb1 hpp
        go_loopw [8, 22] (fun _ i wr => ∃ k : Nat, k ≤ n ∧ i = .int .i64 (k : Int) ∧ Hid (Blk wr p 62 (gcells (setL ((a.take k).map (growR d))))) ∧ Below w.heap.size w wr) (fun _ i _ => n - (intOf i).toNat)
        case atStart => exact ⟨0, by omega, rfl, B1, bb⟩
        case round =>
          obtain ⟨k, hk, rfl, h1, hb⟩ := hrel
          by_cases hlt : k < n
          · obtain ⟨b, o, rfl, hbl, g⟩ := HF.out k (by rw [← HN.out]; exact hlt)
            obtain ⟨p1, p2, p3, p4⟩ := g k (by rw [← HN.out]; exact hlt)
            obtain ⟨x, hx⟩ : ∃ x, x = a.getD k default := ⟨_, rfl⟩
            rw [← hx] at p1 p2 p3 p4
            rw [← hb.cell (p := ⟨b, _, none⟩) hbl] at p1 p2 p3 p4
            have i0 : (0 : Int) ≤ (k : Int) := by omega
            have i1 : (k : Int) < (n : Int) := by omega
            have hxo : okR x = true := by rw [hx]; exact allOk_getD HOK.out (by rw [← HN.out]; exact hlt)
            have hgo := growR_ok d0 hxo
            obtain ⟨q1, q2, q3, q4, q5, q6⟩ := okR_parts hxo
            have HX := Lib.hid hx
            have HGO := Lib.hid hgo
            have hsz := hb.size
            clear g hx hxo hgo
            have hok1 : (setL ((a.take k).map (growR d))).ok := setL_ok (allOk_map (allOk_take HOK.out k) d0)
            go_wp2_with (fail)
            refine (fill_any p (setL ((a.take k).map (growR d))) hok1 (growR d x) HGO.out _ (h1.out.alloc _)).mono ?_
            rintro e w' ⟨rfl, hB, hG⟩
            have hbe : Below w.heap.size w w' := hb.trans (gb_to_below (gb_trans (gb_alloc (gb_refl wr _) _) hG) hsz (fun k e => by cases e; exact hp))
            have hnew : Blk w' p 62 (gcells (setL ((a.take (k + 1)).map (growR d)))) := by
              rw [take_snocR a k (by rw [← HN.out]; exact hlt), ← HX.out, List.map_append, List.map_cons, List.map_nil, setL_snoc]; exact hB
            have HNW := Lib.hid hnew
            clear hnew hB hG hok1
            go_wp2
            go_roundw
            case rel => exact ⟨k + 1, by omega, by go_num, HNW, hbe⟩
            case measure => simp [intOf]; omega
          · obtain rfl : k = n := by omega
            clear hlt hk
            have hall : a.take k = a := List.take_of_length_le (by rw [HN.out]; exact Nat.le_refl _)
            have hz := h1.out
            rw [hall] at hz
            have HZ := Lib.hid hz
            clear hz h1 hall
            have hok1 : (setL (a.map (growR d))).ok := setL_ok (allOk_map HOK.out d0)
            have HO1 := Lib.hid hok1
            clear hok1
            go_wp2_with (go_at_call 36; refine (area_any p (setL (a.map (growR d))) HO1.out _ HZ.out (HT.out.below hb)).mono ?_; rintro e w2 ⟨v, rfl, hv2, hb2⟩)
            go_ret2
            refine ⟨v, by rw [HE1.out]; rfl, by rw [HE2.out]; exact hv2, hb.trans (hb2.mono hb.size)⟩
  · have hv' : validL a = false := by simpa using hv
    have e1 : growE a d = 290 := by unfold growE; rw [hv']; rfl
    have e2 : growL a d = [] := by unfold growL; rw [hv']; rfl
    have HE1 := Lib.hid e1
    have HE2 := Lib.hid e2
    clear e1 e2 hv
    go_enter Tryd.func15, Tryd.ntmps15
    go_wp2_with (go_at_call 16; refine (valid_any a _ w H.out HT.out).mono ?_; rintro e w1 ⟨rfl, hb1⟩)
    go_ret2
    exact ⟨.slice none 0 0, by rw [HE1.out]; rfl, by rw [HE2.out]; exact Sl.nil _ _, hb1⟩
end Go.Proofs.YtplamgmmncenjaaDoorR
