/- Walks of package area: slices.Equal, set. -/
import Derived.Test.YtplamgmmncenjaaDoorRW4
namespace Go.Proofs.YtplamgmmncenjaaDoorR
open Go.RowKit
instance : Inhabited Rct := ⟨⟨0, 0, 0, 0⟩⟩
/-- a list of rectangles in memory -/
def SlR (w : World) (v : Value) (l : List Rct) : Prop := Sl w 4 v l.length (cellsR l)
theorem SlR.below {w w' : World} {v : Value} {l : List Rct} (h : SlR w v l) (hb : Below w.heap.size w w') : SlR w' v l := Sl.below h hb
theorem cellsR_get : ∀ (l : List Rct) (k j : Nat), k < l.length → j < 4 → (cellsR l)[k * 4 + j]? = (encR (l.getD k default))[j]?
  | [], _, _, h, _ => by simp at h
  | q :: l, 0, j, _, hj => by
    rw [cellsR_cons, List.getElem?_append_left (by simp [encR]; omega), Nat.zero_mul, Nat.zero_add]; rfl
  | q :: l, k + 1, j, h, hj => by
    rw [cellsR_cons, List.getElem?_append_right (by simp [encR]; omega), show (k + 1) * 4 + j - (encR q).length = k * 4 + j by simp [encR]; omega]
    exact cellsR_get l k j (by simpa using h) hj
theorem SlR.form {w : World} {v : Value} {l : List Rct} (h : SlR w v l) : ∃ A cap, v = .slice A l.length cap ∧ l.length ≤ cap ∧ cap ≤ maxLen ∧ (∀ k, k < l.length → ∃ b off, A = some ⟨b, off, none⟩ ∧ b < w.heap.size ∧
    (∀ i, i < l.length → w.cell? ⟨b, off + i * 4, none⟩ = some (.int .i64 (l.getD i default).l) ∧ w.cell? ⟨b, off + i * 4 + 1, none⟩ = some (.int .i64 (l.getD i default).r) ∧
      w.cell? ⟨b, off + i * 4 + 2, none⟩ = some (.int .i64 (l.getD i default).lo) ∧ w.cell? ⟨b, off + i * 4 + 3, none⟩ = some (.int .i64 (l.getD i default).hi))) := by
  obtain ⟨h1, A, cap, h2, h3, h4, h5⟩ := h
  refine ⟨A, cap, h2, h3, h4, fun k hk => ?_⟩
  obtain ⟨b, off, e, hb, hc⟩ := h5 (by omega)
  refine ⟨b, off, e, hb, fun i hi => ?_⟩
  have g := fun j (hj : j < 4) u (hu : (encR (l.getD i default))[j]? = some u) => hc (i * 4 + j) u ((cellsR_get l i j hi hj).trans hu)
  exact ⟨g 0 (by omega) _ rfl, by have := g 1 (by omega) _ rfl; rwa [← Nat.add_assoc] at this, by have := g 2 (by omega) _ rfl; rwa [← Nat.add_assoc] at this, by have := g 3 (by omega) _ rfl; rwa [← Nat.add_assoc] at this⟩
theorem rect_ht : Tryd.prog.underlying 36 = some (.struct (Tryd.prog.fieldsOf 36)) := by kernel_rfl
theorem rect_hp : Tryd.prog.stoodInHeld 36 = false := by kernel_rfl
theorem rect_hm : Tryd.prog.eqGuardType Tryd.prog.depth 36 = false := by kernel_rfl
theorem rect_hf : (Tryd.prog.fieldsOf 36).toList = [⟨"Left", 3, 0, false, "", "", 0⟩, ⟨"Right", 3, 1, false, "", "", 8⟩, ⟨"Low", 3, 2, false, "", "", 16⟩, ⟨"High", 3, 3, false, "", "", 24⟩] := by kernel_rfl
theorem rect_neq (a b c d a' b' c' d' : Int) (w : World) : (binOp .neq 36 (.agg #[.int .i64 a, .int .i64 b, .int .i64 c, .int .i64 d]) (.agg #[.int .i64 a', .int .i64 b', .int .i64 c', .int .i64 d'])).run Tryd.prog w = .ok (.bool (!decide ((⟨a, b, c, d⟩ : Rct) = ⟨a', b', c', d'⟩))) w := by
  have h1 := rect_ht
  have h2 := rect_hp
  have h3 := Tryd.underlying3
  rw [run_neq_struct, run_equalIn_agg _ _ _ _ _ h1 h2, rect_hf]
  simp [Op.eqFields, go_sem, h3]
  by_cases e1 : a = a' <;> by_cases e2 : b = b' <;> by_cases e3 : c = c' <;> by_cases e4 : d = d' <;> simp [*]
theorem rect_neq' (x y : Rct) (w : World) : (binOp .neq 36 (.agg #[.int .i64 x.l, .int .i64 x.r, .int .i64 x.lo, .int .i64 x.hi]) (.agg #[.int .i64 y.l, .int .i64 y.r, .int .i64 y.lo, .int .i64 y.hi])).run Tryd.prog w = .ok (.bool (!decide (x = y))) w := rect_neq _ _ _ _ _ _ _ _ w
def eqTo (a b : List Rct) (k : Nat) : Prop := ∀ i, i < k → a.getD i default = b.getD i default
set_option maxHeartbeats 1000000 in
/-- slices.Equal -/
theorem equal_any (a b : List Rct) (v1 v2 : Value) (w : World) (h1 : SlR w v1 a) (h2 : SlR w v2 b) :
    Calls Tryd.prog 47 #[v1, v2] w fun e w' => e = .returned (.bool (decide (a = b))) ∧ ∃ n, w' = w.drewN n := by
  obtain ⟨A1, c1, rfl, _, m1, f1⟩ := h1.form
  obtain ⟨A2, c2, rfl, _, m2, f2⟩ := h2.form
  clear h1 h2
  have hl1 : a.length ≤ 9223372036854775807 := by unfold maxLen at m1; omega
  have hl2 : b.length ≤ 9223372036854775807 := by unfold maxLen at m2; omega
  clear m1 m2
  obtain ⟨n1, hn1⟩ : ∃ n, n = a.length := ⟨_, rfl⟩
  obtain ⟨n2, hn2⟩ : ∃ n, n = b.length := ⟨_, rfl⟩
  rw [← hn1] at f1 hl1 ⊢
  rw [← hn2] at f2 hl2 ⊢
  have HN1 := Lib.hid hn1
  have HN2 := Lib.hid hn2
  clear hn1 hn2
  by_cases hne : n1 = n2
  · obtain rfl := hne
    go_enter Tryd.func47, Tryd.ntmps47
    go_wp2
    go_loopw [5, 13] (fun _ i wr => ∃ k : Nat, k ≤ n1 ∧ i = .int .i64 (k : Int) ∧ (∃ n, wr = w.drewN n) ∧ eqTo a b k) (fun _ i _ => n1 - (intOf i).toNat)
    case atStart => exact ⟨0, by omega, rfl, ⟨0, rfl⟩, fun i hi => by omega⟩
    case round =>
      obtain ⟨k, hk, rfl, ⟨n, rfl⟩, he⟩ := hrel
      by_cases hlt : k < n1
      · obtain ⟨b1, o1, rfl, _, g1⟩ := f1 k hlt
        obtain ⟨b2, o2, rfl, _, g2⟩ := f2 k hlt
        obtain ⟨p1, p2, p3, p4⟩ := g1 k hlt
        obtain ⟨r1, r2, r3, r4⟩ := g2 k hlt
        obtain ⟨x, hx⟩ : ∃ x, x = a.getD k default := ⟨_, rfl⟩
        obtain ⟨y, hy⟩ : ∃ y, y = b.getD k default := ⟨_, rfl⟩
        rw [← hx] at p1 p2 p3 p4
        rw [← hy] at r1 r2 r3 r4
        have HE := Lib.hid he
        have HX := Lib.hid hx
        have HY := Lib.hid hy
        clear he g1 g2 f1 f2 hx hy
        have i0 : (0 : Int) ≤ (k : Int) := by omega
        have i1 : (k : Int) < (n1 : Int) := by omega
        have hm := rect_hm
        have hq := rect_neq' x y
        by_cases hxy : x = y
        · obtain rfl := hxy
          have hd : decide (x = x) = true := by simp
          clear hd
          go_wp2
          go_quiet (fail)
          go_wp2
          go_roundw
          case rel => exact ⟨k + 1, by omega, by go_num, ⟨n + nq, by first | rfl | rw [World.drewN_drewN]⟩, fun i hi => by
            by_cases e : i = k
            · subst e; rw [← HX.out, ← HY.out]
            · exact HE.out i (by omega)⟩
          case measure => simp [intOf]; omega
        · have hd : decide (x = y) = false := by simp [hxy]
          have HXY := Lib.hid hxy
          clear hxy
          go_wp2
          go_quiet (fail)
          go_wp2
          go_ret
          refine ⟨?_, n + nq, by first | rfl | rw [World.drewN_drewN]⟩
          have : decide (a = b) = false := by
            rw [decide_eq_false_iff_not]
            intro e; exact HXY.out (by rw [HX.out, HY.out, e])
          rw [this]; rfl
      · obtain rfl : k = n1 := by omega
        clear f1 f2
        have HE := Lib.hid he
        clear he
        go_wp2
        go_ret
        refine ⟨?_, n, rfl⟩
        have : decide (a = b) = true := by
          rw [decide_eq_true_eq]
          apply List.ext_getElem (by rw [← HN1.out, ← HN2.out])
          intro i h1 h2
          have := HE.out i (by rw [HN1.out]; exact h1)
          simpa [List.getD, h1, h2] using this
        rw [this]; rfl
  · have hne' : ((n1 : Int) != (n2 : Int)) = true := by simp; omega
    clear f1 f2
    have HNE := Lib.hid hne
    clear hne
    go_enter Tryd.func47, Tryd.ntmps47
    go_wp2
    go_ret
    refine ⟨?_, 0, rfl⟩
    have : decide (a = b) = false := by
      rw [decide_eq_false_iff_not]
      intro e; exact HNE.out (by rw [HN1.out, HN2.out, e])
    rw [this]; rfl
theorem gcells_size (g : Grd) : (gcells g).size = 64 := by simp [gcells]
theorem gcells_one (g : Grd) : (gcells g).all (·.oneCell') = true := by
  rw [Array.all_eq_true]; intro i hi; simp [gcells, Value.oneCell']
theorem grid_size (g : Grd) : (Tryd.prog.info? 62).map (·.size) = some (gcells g).size := by
  rw [gcells_size]; kernel_rfl
theorem gcells0 : gcells g0 = #[.int .u64 0, .int .u64 0, .int .u64 0, .int .u64 0, .int .u64 0, .int .u64 0, .int .u64 0, .int .u64 0, .int .u64 0, .int .u64 0, .int .u64 0, .int .u64 0, .int .u64 0, .int .u64 0, .int .u64 0, .int .u64 0, .int .u64 0, .int .u64 0, .int .u64 0, .int .u64 0, .int .u64 0, .int .u64 0, .int .u64 0, .int .u64 0, .int .u64 0, .int .u64 0, .int .u64 0, .int .u64 0, .int .u64 0, .int .u64 0, .int .u64 0, .int .u64 0, .int .u64 0, .int .u64 0, .int .u64 0, .int .u64 0, .int .u64 0, .int .u64 0, .int .u64 0, .int .u64 0, .int .u64 0, .int .u64 0, .int .u64 0, .int .u64 0, .int .u64 0, .int .u64 0, .int .u64 0, .int .u64 0, .int .u64 0, .int .u64 0, .int .u64 0, .int .u64 0, .int .u64 0, .int .u64 0, .int .u64 0, .int .u64 0, .int .u64 0, .int .u64 0, .int .u64 0, .int .u64 0, .int .u64 0, .int .u64 0, .int .u64 0, .int .u64 0] := by rfl
theorem take_snocR (l : List Rct) (k : Nat) (h : k < l.length) : l.take (k + 1) = l.take k ++ [l.getD k default] := by
  rw [List.take_succ_eq_append_getElem h]; simp [List.getD, h]
def allOk (l : List Rct) : Bool := l.all okR
def setV (l : List Rct) : Grd := if allOk l then setL l else g0
set_option maxRecDepth 100000 in
set_option maxHeartbeats 1000000 in
/-- set -/
theorem set_any (l : List Rct) (v : Value) (w : World) (h : SlR w v l) :
    Calls Tryd.prog 40 #[v] w fun e w' => e = .returned (.tuple #[.agg (gcells (setV l)), .bool (allOk l)]) ∧ Below w.heap.size w w' := by
  obtain ⟨A, c, rfl, _, m1, f1⟩ := h.form
  clear h
  have hl1 : l.length ≤ 9223372036854775807 := by unfold maxLen at m1; omega
  clear m1
  obtain ⟨n, hn⟩ : ∃ n, n = l.length := ⟨_, rfl⟩
  rw [← hn] at f1 hl1 ⊢
  have HN := Lib.hid hn
  clear hn
  have u62 := Tryd.underlying62
  go_enter Tryd.func40, Tryd.ntmps40
  go_wp2
  rw [← gcells0]
  generalize hW0 : World.alloc (World.alloc w _) _ = W0
  have b0 : Blk W0 w.heap.size 62 (gcells g0) := by rw [← hW0]; exact (Blk.new w _ _).alloc _
  have b1 : Blk W0 (w.heap.size + 1) 62 (gcells g0) := by
    rw [← hW0]
    have := Blk.new (w.alloc (.cells (gcells g0) 62)) 62 (gcells g0)
    rwa [World.size_alloc] at this
  have bb : Below w.heap.size w W0 := by rw [← hW0]; exact ((Below.refl _ _).alloc (Nat.le_refl _) _).alloc (by simp) _
  clear hW0
  have B0 := Lib.hid b0
  have B1 := Lib.hid b1
  clear b0 b1
  go_loopw [6, 9] (fun _ i wr => ∃ k : Nat, k ≤ n ∧ i = .int .i64 (k : Int) ∧ Hid (Blk wr w.heap.size 62 (gcells g0)) ∧ Hid (Blk wr (w.heap.size + 1) 62 (gcells (setL (l.take k)))) ∧ Below w.heap.size w wr ∧ Hid (allOk (l.take k) = true)) (fun _ i _ => n - (intOf i).toNat)
  case atStart => exact ⟨0, by omega, rfl, B0, B1, bb, rfl⟩
  case round =>
    obtain ⟨k, hk, rfl, h0, h1, hb, hok⟩ := hrel
    by_cases hlt : k < n
    · obtain ⟨b, o, rfl, hbl, g⟩ := f1 k hlt
      obtain ⟨p1, p2, p3, p4⟩ := g k hlt
      obtain ⟨x, hx⟩ : ∃ x, x = l.getD k default := ⟨_, rfl⟩
      rw [← hx] at p1 p2 p3 p4
      rw [← hb.cell (p := ⟨b, _, none⟩) hbl] at p1 p2 p3 p4
      have i0 : (0 : Int) ≤ (k : Int) := by omega
      have i1 : (k : Int) < (n : Int) := by omega
      have HX := Lib.hid hx
      have hsz := hb.size
      clear g f1 hx
      by_cases hq : okR x = true
      · go_wp2_with (go_at_call 49; refine (isRect_any x _).mono ?_; rintro e w' ⟨rfl, rfl⟩)
        have hok1 : (setL (l.take k)).ok := setL_ok hok.out
        refine (fill_any (w.heap.size + 1) (setL (l.take k)) hok1 x hq _ ((h1.out.alloc _).alloc _)).mono ?_
        rintro e w' ⟨rfl, hB, hG⟩
        have g0' : Blk w' w.heap.size 62 (gcells g0) := ((h0.out.alloc _).alloc _).grown hG (by simp)
        have hbe : Below w.heap.size w w' := hb.trans (gb_to_below (gb_trans (gb_alloc (gb_alloc (gb_refl wr _) _) _) hG) hsz (fun k e => by cases e; exact Nat.le_succ _))
        have hlast : allOk (l.take (k + 1)) = true := by
          rw [take_snocR l k (by rw [← HN.out]; exact hlt), ← HX.out]
          have := hok.out
          simp only [allOk, List.all_append, List.all_cons, List.all_nil, Bool.and_true, Bool.and_eq_true] at this ⊢
          exact ⟨this, hq⟩
        have hnew : Blk w' (w.heap.size + 1) 62 (gcells (setL (l.take (k + 1)))) := by
          rw [take_snocR l k (by rw [← HN.out]; exact hlt), ← HX.out, setL_snoc]; exact hB
        have G0 := Lib.hid g0'
        have HL := Lib.hid hlast
        have HNW := Lib.hid hnew
        clear g0' hlast hnew hB hG hok1
        go_wp2
        go_roundw
        case rel => exact ⟨k + 1, by omega, by go_num, G0, HNW, hbe, HL⟩
        case measure => simp [intOf]; omega
      · have hq' : okR x = false := by simpa using hq
        have hq0 := (h0.out.alloc (.cells #[.int .i64 x.l, .int .i64 x.r, .int .i64 x.lo, .int .i64 x.hi] 36)).alloc (.cells #[.int .i64 x.l, .int .i64 x.r, .int .i64 x.lo, .int .i64 x.hi] 36)
        have HQ0 := Lib.hid hq0
        clear hq hq0
        go_wp2_with (first | (go_at_call 49; refine (isRect_any x _).mono ?_; rintro e w' ⟨rfl, rfl⟩) | (refine wpList_store_row rfl 62 _ _ rfl w.heap.size (gcells g0) (by rfl) (by rfl) 62 (gcells g0) HQ0.out (grid_size _) (by rw [gcells_size]) (gcells_one _) ?_))
        have e2 : allOk l = false := by
          unfold allOk
          rw [List.all_eq_false]
          refine ⟨x, ?_, by simp [hq']⟩
          have hkl : k < l.length := by rw [← HN.out]; exact hlt
          rw [HX.out]; simp [List.getD, hkl]
        have e3 : setV l = g0 := by unfold setV; rw [if_neg (by rw [e2]; exact Bool.false_ne_true)]
        refine bodyPost_ret (results_cell_tmp rfl _ _ w.heap.size 62 (gcells g0) _ rfl (HQ0.out.row_same _) Tryd.underlying62 rfl (grid_size _)) rfl ⟨?_, below_setRow ((hb.alloc hsz _).alloc (by simp; omega) _) (Nat.le_refl _) _⟩
        rw [e3, e2]; rfl
    · obtain rfl : k = n := by omega
      clear f1
      have hz0 := h0.out
      have hz1 := h1.out
      go_wp2_with (first | (refine wpList_load_row rfl 62 _ rfl (w.heap.size + 1) (by rfl) 62 (gcells (setL (l.take k))) (0, 0) _ hz1 Tryd.underlying62 rfl (grid_size _) ?_) | (refine wpList_store_row rfl 62 _ _ rfl w.heap.size (gcells (setL (l.take k))) (by rfl) (by rfl) 62 (gcells g0) hz0 (grid_size _) (by rw [gcells_size, gcells_size]) (gcells_one _) ?_))
      have e1 : l.take k = l := List.take_of_length_le (by rw [HN.out]; exact Nat.le_refl _)
      have e2 : allOk l = true := by rw [← e1]; exact hok.out
      have e3 : setV l = setL l := by unfold setV; rw [if_pos e2]
      refine bodyPost_ret (results_cell_tmp rfl _ _ w.heap.size 62 (gcells (setL (l.take k))) _ rfl (hz0.row_same _) Tryd.underlying62 rfl (grid_size _)) rfl ⟨?_, below_setRow hb (Nat.le_refl _) _⟩
      rw [e3, e2, e1]; rfl
end Go.Proofs.YtplamgmmncenjaaDoorR
