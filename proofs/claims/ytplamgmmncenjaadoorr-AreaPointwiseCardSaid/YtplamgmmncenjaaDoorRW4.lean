/- Walk of package area: rects, the rectangles of a set. -/
import Derived.RangeFuncBox
import Derived.Maps.AppendAt
import Derived.Maps.OwnIn
import Derived.Test.YtplamgmmncenjaaDoorRR
import Derived.Test.YtplamgmmncenjaaDoorRW2
import Derived.Test.YtplamgmmncenjaaDoorRW3
namespace Go.Proofs.YtplamgmmncenjaaDoorR
open Go.RowKit Go.Shelf
attribute [local go_sem] Oper.semAt_some
def encR (q : Rct) : List Value := [.int .i64 q.l, .int .i64 q.r, .int .i64 q.lo, .int .i64 q.hi]
def cellsR (l : List Rct) : List Value := l.flatMap encR
theorem cellsR_snoc (l : List Rct) (q : Rct) : cellsR (l ++ [q]) = cellsR l ++ encR q := by simp [cellsR]
theorem cellsR_cons (q : Rct) (l : List Rct) : cellsR (q :: l) = encR q ++ cellsR l := rfl
theorem cellsR_len (l : List Rct) : (cellsR l).length = l.length * 4 := by
  induction l with
  | nil => rfl
  | cons q l ih => rw [cellsR_cons, List.length_append, ih, List.length_cons]; show 4 + l.length * 4 = _; omega

theorem rectInfo : (Tryd.prog.info? 36).map (fun i => (i.zero, i.size, i.bytes)) = some (some (.agg #[.int .i64 0, .int .i64 0, .int .i64 0, .int .i64 0]), 4, 32) := by kernel_rfl
structure Inner (w : World) (b : Nat) (g : Grd) (k B4 Bn : Nat) (Ds : List Nat) (xs : List Rct) (W : World) : Prop where
  out : ∃ v, Blk W (w.heap.size + 1) 24 #[v] ∧ W.ownsRow w.heap.size 36 4 v xs.length (cellsR xs) ∧ v.ownBlock ≠ some Bn
  gp : Blk W w.heap.size 73 #[.pointer (some ⟨b, 0, none⟩)]
  gr : Blk W b 62 (gcells g)
  y : Blk W B4 3 #[.int .i64 (k : Int)]
  bel : Below w.heap.size w W
  col : Collected W Ds
  bn : Bn < W.heap.size
theorem Inner.stable {w : World} {b : Nat} {g : Grd} {k B4 Bn : Nat} {Ds : List Nat} {f : List Iv → List Rct} {B : Nat} (hb : b < w.heap.size) (h4 : w.heap.size + 1 < B4) (hn : B4 < Bn) (hBB : Bn < B) (hD : ∀ D ∈ Ds, D < Bn) :
    StableAt B Bn (fun pre W => Inner w b g k B4 Bn Ds (f pre) W) := by
  intro s W W' row h hg hr
  obtain ⟨⟨v, hv1, hv2, hv3⟩, h2, h3, h4', h5, h6, h7⟩ := h
  have ne : ∀ {x : Nat} {t : TypeId} {cs : Array Value}, Blk W x t cs → x ≠ Bn → some x ≠ row := fun hx hxn e => by
    rcases hr _ e.symm with h | ⟨_, o, ho, hc⟩
    · exact hxn h
    · unfold Blk at hx; rw [hx] at ho; cases ho; cases hc
  refine ⟨⟨v, hv1.grown hg (ne hv1 (by omega)), hv2.kept hg ?_, hv3⟩, h2.grown hg (ne h2 (by omega)), h3.grown hg (ne h3 (by omega)), h4'.grown hg (ne h4' (by omega)), h5.grown hg h5.size (fun r e => ?_), ⟨h6.1, fun D hDD => ?_⟩, Nat.lt_of_lt_of_le h7 hg.size⟩
  · rcases hv2.2 with ⟨rfl, _⟩ | ⟨g', cap, cur, rfl, _, hh, _⟩
    · exact .inl rfl
    · refine .inr (fun e => ?_)
      simp only [Value.ownBlock] at e hv3
      rcases hr g' e.symm with h | ⟨_, o, ho, hc⟩
      · exact hv3 (by rw [h])
      · rw [hh] at ho; cases ho; cases hc
  · rcases hr r e with h | h
    · have := h5.size; omega
    · have := h5.size; omega
  · have := h6.2 D hDD
    refine (hg.block D (Array.getElem?_eq_some_iff.1 this).1 (fun e => ?_)).trans this
    have := hD D hDD
    rcases hr D e.symm with h | h <;> omega

theorem hasAt_nat (g : Grd) (j : Nat) (q : Iv) : hasAt g (j : Int) q = (decide (j < 64) && hasIv (g j) q) := by
  unfold hasAt; congr 1; rw [Bool.eq_iff_iff]; simp; omega
theorem round_skip (g : Grd) (k : Nat) (x : Iv) (pre : List Iv) {A : List Rct} (h : hasAt g ((k : Int) - 1) x = true) : A ++ (pre ++ [x]).filterMap (rectAt g k) = A ++ pre.filterMap (rectAt g k) := by
  have hk : 0 < k ∧ hasIv (g (k - 1)) x = true := by
    unfold hasAt at h
    simp only [Bool.and_eq_true, decide_eq_true_eq] at h
    exact ⟨by omega, by rw [show ((k : Int) - 1).toNat = k - 1 by omega] at h; exact h.2⟩
  rw [List.filterMap_append]
  have : rectAt g k x = none := by unfold rectAt; rw [if_pos hk]
  simp [this]
theorem round_hit (g : Grd) (k : Nat) (hk64 : k ≤ 64) (x : Iv) (pre : List Iv) {A : List Rct} (h : hasAt g ((k : Int) - 1) x = false) : A ++ (pre ++ [x]).filterMap (rectAt g k) = (A ++ pre.filterMap (rectAt g k)) ++ [⟨x.l, x.r, k, highOf g x k⟩] := by
  have hk : ¬(0 < k ∧ hasIv (g (k - 1)) x = true) := by
    rintro ⟨h1, h2⟩
    have h3 := hasAt_nat g (k - 1) x
    rw [show (((k - 1 : Nat)) : Int) = (k : Int) - 1 by omega, h, h2] at h3
    simp at h3; omega
  rw [List.filterMap_append]
  have : rectAt g k x = some ⟨x.l, x.r, k, highOf g x k⟩ := by unfold rectAt; rw [if_neg hk]
  simp [this]

def RI (w : World) (b : Nat) (g : Grd) (a : Act) (W : World) : Prop :=
  ∃ (k : Nat) (Ds : List Nat) (u4 u9 u10 u11 u12 u13 u14 u15 u16 u44 : Value), k ≤ 64 ∧ a = ⟨#[.pointer (some ⟨b, 0, none⟩), .pointer (some ⟨w.heap.size, 0, none⟩), .slice none 0 0, .pointer (some ⟨w.heap.size + 1, 0, none⟩), u4, undef, undef, undef, .int .i64 (k : Int), u9, u10, u11, u12, u13, u14, u15, u16, undef, undef, undef, undef, undef, undef, undef, undef, undef, undef, undef, undef, undef, undef, undef, undef, undef, undef, undef, undef, undef, undef, undef, undef, undef, undef, undef, u44, undef], marks Ds⟩ ∧
    (∃ v, Blk W (w.heap.size + 1) 24 #[v] ∧ W.ownsRow w.heap.size 36 4 v (rectsTo g k).length (cellsR (rectsTo g k))) ∧ Blk W w.heap.size 73 #[.pointer (some ⟨b, 0, none⟩)] ∧ Blk W b 62 (gcells g) ∧ Below w.heap.size w W ∧ Collected W Ds ∧ (∀ D ∈ Ds, w.heap.size ≤ D)
def muI (a : Act) (_ : World) : Nat := 64 - (intOf (a.tmps.getD 8 undef)).toNat
set_option maxRecDepth 100000 in
set_option maxHeartbeats 1000000 in
/-- rects -/
theorem rects_any (b : Nat) (g : Grd) (hg : g.ok) (w : World) (hb : Blk w b 62 (gcells g)) (hT : HasTab w) :
    Calls Tryd.prog 46 #[.pointer (some ⟨b, 0, none⟩)] w fun e W' => ∃ v, e = .returned v ∧ Sl W' 4 v (rectsG g).length (cellsR (rectsG g)) ∧ Below w.heap.size w W' := by
  refine callsIn_wide.1 (callsIn_of_wp_marks (n := 5) Tryd.func46 rfl trivial (wpIn_wide.2 ?_))
  simp only [Tryd.ntmps46, List.size_toArray, List.length_cons, List.length_nil, Nat.reduceAdd, Nat.reduceSub, Array.replicate_succ, Array.replicate_zero, List.push_toArray, List.append_toArray, List.nil_append, List.cons_append]
  have hbl := hb.lt
  have HB := Lib.hid hb
  have HT := Lib.hid hT
  clear hb hT
  go_wp2
  refine wp_loop (RI w b g) muI ?start ?round
  case start =>
    refine ⟨0, [], undef, undef, undef, undef, undef, undef, undef, undef, undef, undef, by omega, rfl, ⟨.slice none 0 0, ?_, World.ownsRow_nil _ _ _ _⟩, ?_, (HB.out.alloc _).alloc _, ((Below.refl _ _).alloc (Nat.le_refl _) _).alloc (by simp) _, ⟨List.nodup_nil, fun D hD => (by cases hD)⟩, fun D hD => (by cases hD)⟩
    · have := Blk.new (w.alloc (.cells #[.pointer (some ⟨b, 0, none⟩)] 73)) 24 #[.slice none 0 0]
      rw [World.size_alloc] at this
      exact this
    · exact (Blk.new w _ _).alloc _
  case round =>
    rintro a W ⟨k, Ds, u4, u9, u10, u11, u12, u13, u14, u15, u16, u44, hk, rfl, ⟨v, hv1, hv2⟩, h2, h3, h5, h6, hDs⟩
    have c1 : W.cell? ⟨w.heap.size, 0, none⟩ = some (.pointer (some ⟨b, 0, none⟩)) := by rw [h2.cell]; rfl
    have c3 : W.cell? ⟨w.heap.size + 1, 0, none⟩ = some v := by rw [hv1.cell]; rfl
    have hWs : w.heap.size + 1 < W.heap.size := hv1.lt
    by_cases hlt : (k : Int) < 64
    · have H2 := Lib.hid h2
      have H3 := Lib.hid h3
      have HV := Lib.hid hv1
      clear h2 h3 hv1 c3
      go_wp2
      obtain ⟨WA, hWA⟩ : ∃ WA, WA = W.alloc (.cells #[.int .i64 (k : Int)] 3) := ⟨_, rfl⟩
      obtain ⟨B4, hB4⟩ : ∃ B4, B4 = W.heap.size := ⟨_, rfl⟩
      rw [← hWA, ← hB4]
      have hWAs : WA.heap.size = B4 + 1 := by rw [hWA, hB4]; simp
      have y4 : Blk WA B4 3 #[.int .i64 (k : Int)] := by rw [hWA, hB4]; exact Blk.new _ _ _
      have c1 : WA.cell? ⟨w.heap.size, 0, none⟩ = some (.pointer (some ⟨b, 0, none⟩)) := by rw [hWA, (H2.out.alloc _).cell]; rfl
      have c4 : WA.cell? ⟨B4, 0, none⟩ = some (.int .i64 (k : Int)) := by rw [y4.cell]; rfl
      have cb : WA.cell? ⟨b, k, none⟩ = some (.int .u64 (g k : Int)) := by rw [hWA, (H3.out.alloc _).cell, gcells_at _ _ (by omega)]
      have hb0 : (0 : Int) ≤ (k : Int) := by omega
      have HW := Lib.hid hWA
      have HB4 := Lib.hid hB4
      have HY4 := Lib.hid y4
      clear hWA hB4 y4
      refine region_quiet_tail_lit 5 (by kernel_rfl) (by kernel_rfl) ?_
      simp only [List.take_succ_cons, List.take_zero, List.drop_succ_cons, List.drop_zero]
      repeat (go_big_quiet_step (fail))
      refine wpQuiet_nil ?_
      intro _ hw'
      obtain ⟨nq, hw''⟩ := hw'
      subst hw''
      go_wp2_with (go_at_call 50; refine (intervals_any _ _).mono ?_; rintro e w' ⟨rfl, rfl⟩)
      obtain ⟨WB, hWB⟩ : ∃ WB, WB = (WA.drewN nq).alloc (.cells #[.int .u64 (g k : Int)] 59) := ⟨_, rfl⟩
      rw [← hWB]
      have hWBs : WB.heap.size = B4 + 2 := by rw [hWB]; simp [hWAs]
      have hbn : Blk WB (B4 + 1) 59 #[.int .u64 (g k : Int)] := by rw [hWB, ← hWAs]; exact Blk.new (WA.drewN nq) _ _
      have hWW : W.heap.size = B4 := HB4.out.symm
      have hI0 : Inner w b g k B4 (B4 + 1) Ds (rectsTo g k ++ ([] : List Iv).filterMap (rectAt g k)) WB := by
        have hown : v.ownBlock ≠ some (B4 + 1) := fun e => by have := (hv2.lt _ e).2; omega
        have up : ∀ {z : Nat} {t : TypeId} {cs : Array Value}, Blk WA z t cs → Blk WB z t cs := fun hz => by rw [hWB]; exact (hz.drewN nq).alloc _
        have up0 : ∀ {z : Nat} {t : TypeId} {cs : Array Value}, Blk W z t cs → Blk WB z t cs := fun hz => up (by rw [HW.out]; exact hz.alloc _)
        have hbW : Below W.heap.size W WB := by
          rw [hWB, HW.out]
          exact (below_drewN ((Below.refl _ W).alloc (Nat.le_refl _) _) nq).alloc (by simp) _
        rw [List.filterMap_nil, List.append_nil]
        refine ⟨⟨v, up0 HV.out, ?_, hown⟩, up0 H2.out, up0 H3.out, up HY4.out, h5.trans (hbW.mono h5.size), ⟨h6.1, fun D hD => (hbW.block D (Array.getElem?_eq_some_iff.1 (h6.2 D hD)).1).trans (h6.2 D hD)⟩, by omega⟩
        rw [hWB, HW.out]
        exact (hv2.alloc _).alloc _
      refine wpIn_wide.1 (range_cell (n := 5) (α := Iv) rfl (by omega) (gf := 53) (lb := #[.pointer (some ⟨B4 + 1, 0, none⟩)]) rfl trivial (enters_of Tryd.func53 (by kernel_rfl) rfl)
        (encs := fun x : Iv => #[.int .u64 (x.m : Int)]) (fun _ => rfl) (Bn := B4 + 1) (N := 64) (by omega) (xs := ivs (g k))
        (fun l J W' hbe hJ hY h0 => iter_in Fence.wide 4 trivial rfl (by omega) l (B4 + 1) (g k) (hg k) J hJ hY W' (hbn.below hbe (by omega)) h0)
        (fun pre W' => Inner w b g k B4 (B4 + 1) Ds (rectsTo g k ++ pre.filterMap (rectAt g k)) W')
        (Inner.stable hbl (by omega) (by omega) (by omega) (fun D hD => by have := (Array.getElem?_eq_some_iff.1 (h6.2 D hD)).1; omega)) hI0
        (fun x => ⟨#[.pointer (some ⟨b, 0, none⟩), .pointer (some ⟨w.heap.size, 0, none⟩), .slice none 0 0, .pointer (some ⟨w.heap.size + 1, 0, none⟩), .pointer (some ⟨B4, 0, none⟩), .int .u64 (x.m : Int), undef, undef, .int .i64 (k : Int), .bool true, .int .i64 (k : Int), .pointer (some ⟨b, 0, none⟩), .int .i64 (k : Int), .pointer (some ⟨b, 0, none⟩), .pointer (some ⟨b, k, none⟩), .int .u64 (g k : Int), .func (.func 53) #[] #[.pointer (some ⟨B4 + 1, 0, none⟩)], .int .u64 (x.m : Int), undef, undef, undef, undef, undef, undef, undef, undef, undef, undef, undef, undef, undef, undef, undef, undef, undef, undef, undef, undef, undef, undef, undef, undef, undef, undef, u44, undef], []⟩) ?assign ?body ?done)
      case assign =>
        intro l x W' K hK
        gi_wp2
        exact hK
      case body =>
        rintro l pre x W' hl ⟨⟨v', hv1', hv2', hv3'⟩, h2', h3', h4', h5', h6', h7'⟩ hlen
        have c1 : W'.cell? ⟨w.heap.size, 0, none⟩ = some (.pointer (some ⟨b, 0, none⟩)) := by rw [h2'.cell]; rfl
        have c4 : W'.cell? ⟨B4, 0, none⟩ = some (.int .i64 (k : Int)) := by rw [h4'.cell]; rfl
        have c3 : W'.cell? ⟨w.heap.size + 1, 0, none⟩ = some v' := by rw [hv1'.cell]; rfl
        have hm : Tryd.prog.follows .mixedOrders = true := by kernel_rfl
        have F3 := Lib.hid c3
        clear c3
        gi_wp2_with (refine ⟨trivial, ?_⟩; gi_at_call 51; refine (CallsIn.inRound l (callsIn_wide.2 (has_any b g hg x _ W' h3'))).mono ?_; rintro e w' ⟨rfl, rfl⟩)
        · have ht : hasAt g ((k : Int) - 1) x = true := by assumption
          exact ⟨KeepsFrom.refl _ _, rfl, by show Inner _ _ _ _ _ _ _ (_ ++ _) _; rw [round_skip g k x pre ht]; exact ⟨⟨v', hv1', hv2', hv3'⟩, h2', h3', h4', h5', h6', h7'⟩⟩
        · have hf : hasAt g ((k : Int) - 1) x = false := by assumption
          have HF := Lib.hid hf
          rw [hf]
          clear hf
          gi_loopw [6] (fun h wr => ∃ j : Nat, k + 1 ≤ j ∧ j ≤ 64 ∧ h = .int .i64 (j : Int) ∧ wr = W' ∧ Hid (highF g x (64 - j) j = highOf g x k)) (fun h _ => 64 - (intOf h).toNat)
          case atStart => exact ⟨k + 1, by omega, by omega, by go_num, rfl, by show highF _ _ _ _ = _; unfold highOf; congr 1; omega⟩
          case round =>
            obtain ⟨j, hj1, hj2, rfl, rfl, hj3⟩ := hrel
            gi_wp2_with (refine ⟨trivial, ?_⟩; gi_at_call 51; refine (CallsIn.inRound l (callsIn_wide.2 (has_any b g hg x _ _ h3'))).mono ?_; rintro e w' ⟨rfl, rfl⟩)
            · have ht : hasAt g (j : Int) x = true := by assumption
              rw [hasAt_nat] at ht
              simp only [Bool.and_eq_true, decide_eq_true_eq] at ht
              have hnx : Hid (highF g x (64 - (j + 1)) (j + 1) = highOf g x k) := by
                have := hj3.out
                rw [show 64 - j = (64 - (j + 1)) + 1 by omega, highF, if_pos ht.2] at this
                exact this
              have hjl := ht.1
              clear ht
              go_roundw
              case rel => exact ⟨j + 1, by omega, by omega, by go_num, trivial, hnx⟩
              case measure => simp [intOf]; omega
            · have hf : hasAt g (j : Int) x = false := by assumption
              rw [hasAt_nat] at hf
              have hjh : j = highOf g x k := by
                have := hj3.out
                by_cases e : j = 64
                · subst e; exact this
                · rw [show 64 - j = (64 - (j + 1)) + 1 by omega, highF, if_neg (by intro h; rw [h] at hf; simp at hf; omega)] at this
                  exact this
              have HJ := Lib.hid hjh
              have hTw := HT.out.below h5'
              have HF2 := Lib.hid hf
              clear hjh hf hj3
              gi_wp2_with (refine ⟨trivial, ?_⟩; gi_at_call 52; refine (CallsIn.inRound l (callsIn_wide.2 (tz_any x _ hTw))).mono ?_; rintro e w' ⟨rfl, rfl⟩)
              have hpm : ((pop x.m : Nat) : Int) = (x.r : Int) - (x.l : Int) := by have := x.lt; rw [pop_mask]; omega
              have xlt := x.lt
              have xle := x.le
              have hones : ∀ W0 : World, Calls Tryd.prog 41 #[.int .u64 (x.m : Int)] W0 fun e w' => e = .returned (.int .i64 ((x.r : Int) - (x.l : Int))) ∧ W0 = w' := fun W0 => by rw [← hpm]; exact ones_any _ x.m_lt W0
              clear hpm
              refine regionIn_alloc_tail_lit 10 9 (.cells #[.int .i64 (x.l : Int), .int .i64 (x.r : Int), .int .i64 (k : Int), .int .i64 (j : Int)] 36) (by omega) hm (by kernel_rfl) (by kernel_rfl) ?_
              simp only [List.take_succ_cons, List.take_zero, List.drop_succ_cons, List.drop_zero]
              refine wpP_op rfl (v') (ok_load (by omega) F3.out (fun w' hw' => ?_)) ?_
              · go_simp
              change wpP _ _ _ _ _ _ _ ⟨#[.pointer (some ⟨b, 0, none⟩), .pointer (some ⟨w.heap.size, 0, none⟩), .slice none 0 0, .pointer (some ⟨w.heap.size + 1, 0, none⟩), .pointer (some ⟨B4, 0, none⟩), .int .u64 (x.m : Int), .int .i64 (j : Int), .int .i64 (x.l : Int), .int .i64 (k : Int), .bool true, .int .i64 (k : Int), .pointer (some ⟨b, 0, none⟩), .int .i64 (k : Int), .pointer (some ⟨b, 0, none⟩), .pointer (some ⟨b, k, none⟩), .int .u64 (g k : Int), .func (.func 53) #[] #[.pointer (some ⟨B4 + 1, 0, none⟩)], .int .u64 (x.m : Int), _, _, _, _, _, _, _, _, _, _, _, _, _, _, _, v', undef, undef, undef, undef, undef, undef, undef, undef, undef, undef, u44, undef], []⟩
              refine wpP_op rfl (.int .i64 (x.l : Int)) (ok_all (by omega) (fun w' => ?_)) ?_
              · go_simp
              change wpP _ _ _ _ _ _ _ ⟨#[.pointer (some ⟨b, 0, none⟩), .pointer (some ⟨w.heap.size, 0, none⟩), .slice none 0 0, .pointer (some ⟨w.heap.size + 1, 0, none⟩), .pointer (some ⟨B4, 0, none⟩), .int .u64 (x.m : Int), .int .i64 (j : Int), .int .i64 (x.l : Int), .int .i64 (k : Int), .bool true, .int .i64 (k : Int), .pointer (some ⟨b, 0, none⟩), .int .i64 (k : Int), .pointer (some ⟨b, 0, none⟩), .pointer (some ⟨b, k, none⟩), .int .u64 (g k : Int), .func (.func 53) #[] #[.pointer (some ⟨B4 + 1, 0, none⟩)], .int .u64 (x.m : Int), _, _, _, _, _, _, _, _, _, _, _, _, _, _, _, v', .int .i64 (x.l : Int), undef, undef, undef, undef, undef, undef, undef, undef, undef, u44, undef], []⟩
              refine wpP_op rfl (.int .i64 (x.l : Int)) (ok_all (by omega) (fun w' => ?_)) ?_
              · go_simp
              change wpP _ _ _ _ _ _ _ ⟨#[.pointer (some ⟨b, 0, none⟩), .pointer (some ⟨w.heap.size, 0, none⟩), .slice none 0 0, .pointer (some ⟨w.heap.size + 1, 0, none⟩), .pointer (some ⟨B4, 0, none⟩), .int .u64 (x.m : Int), .int .i64 (j : Int), .int .i64 (x.l : Int), .int .i64 (k : Int), .bool true, .int .i64 (k : Int), .pointer (some ⟨b, 0, none⟩), .int .i64 (k : Int), .pointer (some ⟨b, 0, none⟩), .pointer (some ⟨b, k, none⟩), .int .u64 (g k : Int), .func (.func 53) #[] #[.pointer (some ⟨B4 + 1, 0, none⟩)], .int .u64 (x.m : Int), _, _, _, _, _, _, _, _, _, _, _, _, _, _, _, v', .int .i64 (x.l : Int), .int .i64 (x.l : Int), undef, undef, undef, undef, undef, undef, undef, undef, u44, undef], []⟩
              refine wpP_op rfl (.int .u64 (x.m : Int)) (ok_all (by omega) (fun w' => ?_)) ?_
              · go_simp
              change wpP _ _ _ _ _ _ _ ⟨#[.pointer (some ⟨b, 0, none⟩), .pointer (some ⟨w.heap.size, 0, none⟩), .slice none 0 0, .pointer (some ⟨w.heap.size + 1, 0, none⟩), .pointer (some ⟨B4, 0, none⟩), .int .u64 (x.m : Int), .int .i64 (j : Int), .int .i64 (x.l : Int), .int .i64 (k : Int), .bool true, .int .i64 (k : Int), .pointer (some ⟨b, 0, none⟩), .int .i64 (k : Int), .pointer (some ⟨b, 0, none⟩), .pointer (some ⟨b, k, none⟩), .int .u64 (g k : Int), .func (.func 53) #[] #[.pointer (some ⟨B4 + 1, 0, none⟩)], .int .u64 (x.m : Int), _, _, _, _, _, _, _, _, _, _, _, _, _, _, _, v', .int .i64 (x.l : Int), .int .i64 (x.l : Int), .int .u64 (x.m : Int), undef, undef, undef, undef, undef, undef, undef, u44, undef], []⟩
              refine wpP_op rfl (.int .i64 ((x.r : Int) - (x.l : Int))) (ok_call (f := 41) (args := #[.int .u64 (x.m : Int)]) (by omega) (fun w' => ?_) hones) ?_
              · go_simp
              change wpP _ _ _ _ _ _ _ ⟨#[.pointer (some ⟨b, 0, none⟩), .pointer (some ⟨w.heap.size, 0, none⟩), .slice none 0 0, .pointer (some ⟨w.heap.size + 1, 0, none⟩), .pointer (some ⟨B4, 0, none⟩), .int .u64 (x.m : Int), .int .i64 (j : Int), .int .i64 (x.l : Int), .int .i64 (k : Int), .bool true, .int .i64 (k : Int), .pointer (some ⟨b, 0, none⟩), .int .i64 (k : Int), .pointer (some ⟨b, 0, none⟩), .pointer (some ⟨b, k, none⟩), .int .u64 (g k : Int), .func (.func 53) #[] #[.pointer (some ⟨B4 + 1, 0, none⟩)], .int .u64 (x.m : Int), _, _, _, _, _, _, _, _, _, _, _, _, _, _, _, v', .int .i64 (x.l : Int), .int .i64 (x.l : Int), .int .u64 (x.m : Int), .int .i64 ((x.r : Int) - (x.l : Int)), undef, undef, undef, undef, undef, undef, u44, undef], []⟩
              refine wpP_op rfl (.int .i64 (x.r : Int)) (ok_all (by omega) (fun w' => ?_)) ?_
              · go_simp
                rw [show (x.l : Int) + ((x.r : Int) - (x.l : Int)) = (x.r : Int) by omega]
                exact IntWalk.i64_in _ (by omega)
              change wpP _ _ _ _ _ _ _ ⟨#[.pointer (some ⟨b, 0, none⟩), .pointer (some ⟨w.heap.size, 0, none⟩), .slice none 0 0, .pointer (some ⟨w.heap.size + 1, 0, none⟩), .pointer (some ⟨B4, 0, none⟩), .int .u64 (x.m : Int), .int .i64 (j : Int), .int .i64 (x.l : Int), .int .i64 (k : Int), .bool true, .int .i64 (k : Int), .pointer (some ⟨b, 0, none⟩), .int .i64 (k : Int), .pointer (some ⟨b, 0, none⟩), .pointer (some ⟨b, k, none⟩), .int .u64 (g k : Int), .func (.func 53) #[] #[.pointer (some ⟨B4 + 1, 0, none⟩)], .int .u64 (x.m : Int), _, _, _, _, _, _, _, _, _, _, _, _, _, _, _, v', .int .i64 (x.l : Int), .int .i64 (x.l : Int), .int .u64 (x.m : Int), .int .i64 ((x.r : Int) - (x.l : Int)), .int .i64 (x.r : Int), undef, undef, undef, undef, undef, u44, undef], []⟩
              refine wpP_op rfl (.int .i64 (k : Int)) (ok_load (by omega) c4 (fun w' hw' => ?_)) ?_
              · go_simp
              change wpP _ _ _ _ _ _ _ ⟨#[.pointer (some ⟨b, 0, none⟩), .pointer (some ⟨w.heap.size, 0, none⟩), .slice none 0 0, .pointer (some ⟨w.heap.size + 1, 0, none⟩), .pointer (some ⟨B4, 0, none⟩), .int .u64 (x.m : Int), .int .i64 (j : Int), .int .i64 (x.l : Int), .int .i64 (k : Int), .bool true, .int .i64 (k : Int), .pointer (some ⟨b, 0, none⟩), .int .i64 (k : Int), .pointer (some ⟨b, 0, none⟩), .pointer (some ⟨b, k, none⟩), .int .u64 (g k : Int), .func (.func 53) #[] #[.pointer (some ⟨B4 + 1, 0, none⟩)], .int .u64 (x.m : Int), _, _, _, _, _, _, _, _, _, _, _, _, _, _, _, v', .int .i64 (x.l : Int), .int .i64 (x.l : Int), .int .u64 (x.m : Int), .int .i64 ((x.r : Int) - (x.l : Int)), .int .i64 (x.r : Int), .int .i64 (k : Int), undef, undef, undef, undef, u44, undef], []⟩
              refine wpP_op rfl (.int .i64 (j : Int)) (ok_all (by omega) (fun w' => ?_)) ?_
              · go_simp
              change wpP _ _ _ _ _ _ _ ⟨#[.pointer (some ⟨b, 0, none⟩), .pointer (some ⟨w.heap.size, 0, none⟩), .slice none 0 0, .pointer (some ⟨w.heap.size + 1, 0, none⟩), .pointer (some ⟨B4, 0, none⟩), .int .u64 (x.m : Int), .int .i64 (j : Int), .int .i64 (x.l : Int), .int .i64 (k : Int), .bool true, .int .i64 (k : Int), .pointer (some ⟨b, 0, none⟩), .int .i64 (k : Int), .pointer (some ⟨b, 0, none⟩), .pointer (some ⟨b, k, none⟩), .int .u64 (g k : Int), .func (.func 53) #[] #[.pointer (some ⟨B4 + 1, 0, none⟩)], .int .u64 (x.m : Int), _, _, _, _, _, _, _, _, _, _, _, _, _, _, _, v', .int .i64 (x.l : Int), .int .i64 (x.l : Int), .int .u64 (x.m : Int), .int .i64 ((x.r : Int) - (x.l : Int)), .int .i64 (x.r : Int), .int .i64 (k : Int), .int .i64 (j : Int), undef, undef, undef, u44, undef], []⟩
              refine wpP_op rfl (.agg #[.int .i64 (x.l : Int), .int .i64 (x.r : Int), .int .i64 (k : Int), .int .i64 (j : Int)]) (ok_all (by omega) (fun w' => ?_)) ?_
              · go_simp
              change wpP _ _ _ _ _ _ _ ⟨#[.pointer (some ⟨b, 0, none⟩), .pointer (some ⟨w.heap.size, 0, none⟩), .slice none 0 0, .pointer (some ⟨w.heap.size + 1, 0, none⟩), .pointer (some ⟨B4, 0, none⟩), .int .u64 (x.m : Int), .int .i64 (j : Int), .int .i64 (x.l : Int), .int .i64 (k : Int), .bool true, .int .i64 (k : Int), .pointer (some ⟨b, 0, none⟩), .int .i64 (k : Int), .pointer (some ⟨b, 0, none⟩), .pointer (some ⟨b, k, none⟩), .int .u64 (g k : Int), .func (.func 53) #[] #[.pointer (some ⟨B4 + 1, 0, none⟩)], .int .u64 (x.m : Int), _, _, _, _, _, _, _, _, _, _, _, _, _, _, _, v', .int .i64 (x.l : Int), .int .i64 (x.l : Int), .int .u64 (x.m : Int), .int .i64 ((x.r : Int) - (x.l : Int)), .int .i64 (x.r : Int), .int .i64 (k : Int), .int .i64 (j : Int), .agg #[.int .i64 (x.l : Int), .int .i64 (x.r : Int), .int .i64 (k : Int), .int .i64 (j : Int)], undef, undef, u44, undef], []⟩
              refine wpP_op rfl (.slice (some ⟨wr.heap.size, 0, none⟩) 1 1) (ok_make (fun n => ?_)) ?_
              · go_simp
                rfl
              change wpP _ _ _ _ _ _ _ ⟨#[.pointer (some ⟨b, 0, none⟩), .pointer (some ⟨w.heap.size, 0, none⟩), .slice none 0 0, .pointer (some ⟨w.heap.size + 1, 0, none⟩), .pointer (some ⟨B4, 0, none⟩), .int .u64 (x.m : Int), .int .i64 (j : Int), .int .i64 (x.l : Int), .int .i64 (k : Int), .bool true, .int .i64 (k : Int), .pointer (some ⟨b, 0, none⟩), .int .i64 (k : Int), .pointer (some ⟨b, 0, none⟩), .pointer (some ⟨b, k, none⟩), .int .u64 (g k : Int), .func (.func 53) #[] #[.pointer (some ⟨B4 + 1, 0, none⟩)], .int .u64 (x.m : Int), _, _, _, _, _, _, _, _, _, _, _, _, _, _, _, v', .int .i64 (x.l : Int), .int .i64 (x.l : Int), .int .u64 (x.m : Int), .int .i64 ((x.r : Int) - (x.l : Int)), .int .i64 (x.r : Int), .int .i64 (k : Int), .int .i64 (j : Int), .agg #[.int .i64 (x.l : Int), .int .i64 (x.r : Int), .int .i64 (k : Int), .int .i64 (j : Int)], .slice (some ⟨wr.heap.size, 0, none⟩) 1 1, undef, u44, undef], []⟩
              refine wpP_nil ?_
              rintro w' ⟨nr, rfl⟩
              obtain ⟨ob, hob⟩ : ∃ ob : Obj, ob = .cells #[.int .i64 (x.l : Int), .int .i64 (x.r : Int), .int .i64 (k : Int), .int .i64 (j : Int)] 36 := ⟨_, rfl⟩
              rw [← hob]
              obtain ⟨WC, hWC⟩ : ∃ WC, WC = (wr.alloc ob).drewN nr := ⟨_, rfl⟩
              have own1 : WC.ownsRow w.heap.size 36 4 v' (rectsTo g k ++ pre.filterMap (rectAt g k)).length (cellsR (rectsTo g k ++ pre.filterMap (rectAt g k))) := by rw [hWC]; exact hv2'.alloc ob
              have hnews : ∀ j' u, (encR ⟨x.l, x.r, k, j⟩)[j']? = some u → WC.cell? ((⟨wr.heap.size, 0, none⟩ : Addr).add j') = some u := by
                intro j' u hu
                have hbk : Blk WC wr.heap.size 36 #[.int .i64 (x.l : Int), .int .i64 (x.r : Int), .int .i64 (k : Int), .int .i64 (j : Int)] := by rw [hWC, hob]; exact Blk.new wr _ _
                have e : (⟨wr.heap.size, 0, none⟩ : Addr).add j' = ⟨wr.heap.size, j', none⟩ := by unfold Addr.add; split <;> simp_all
                rw [e, hbk.cell, List.getElem?_toArray]; exact hu
              have hWCs : WC.heap.size = wr.heap.size + 1 := by rw [hWC]; simp
              have hlenb : (rectsTo g k ++ pre.filterMap (rectAt g k)).length ≤ 4160 := by
                have h1 := rectsTo_len g k
                have h2 : (pre.filterMap (rectAt g k)).length ≤ pre.length := List.length_filterMap_le _ _
                rw [List.length_append]; omega
              have hsz2 : w.heap.size ≤ wr.heap.size := h5'.size
              obtain ⟨i0, hi, hz0, hz1, hz2⟩ := info_parts rectInfo
              rw [← hWC]
              obtain ⟨xs, hxs⟩ : ∃ xs, xs = rectsTo g k ++ pre.filterMap (rectAt g k) := ⟨_, rfl⟩
              rw [← hxs] at own1 hlenb
              have HXS := Lib.hid hxs
              have HWC := Lib.hid hWC
              have HOB := Lib.hid hob
              clear hxs hWC hob
              refine wpListIn_append_own_at _ rfl (.tmp 33) (.tmp 42) 24 rfl w.heap.size 36 i0 (.agg #[.int .i64 0, .int .i64 0, .int .i64 0, .int .i64 0]) 4 32 Tryd.underlying24 hi hz0 hz1 hz2 rfl (by decide) v' xs.length (cellsR xs) rfl own1 ⟨wr.heap.size, 0, none⟩ 1 1 (encR ⟨x.l, x.r, k, j⟩) rfl rfl hnews (by simp [encR, Value.oneCell']) (by unfold maxLen; omega) (by omega) (by omega) ?_
              intro v2 w1 hown2 hgrow2 _ hat2
              obtain ⟨g2, cap2, rfl⟩ := ownsRow_succ hown2
              have hgrow3 : (wr.alloc ob).grownBy w1 v'.ownBlock := by
                rw [HWC.out] at hgrow2
                exact ⟨hgrow2.os, hgrow2.tape, hgrow2.output, hgrow2.size, hgrow2.block⟩
              obtain ⟨q1, q2, q3, q4, q5⟩ := Boxed.appended (B := w.heap.size + 1) hv1' (by decide) hv2' h5'.size (Nat.le_succ _) (by rw [HXS.out] at hown2; exact hown2) hgrow3
              rw [← HXS.out] at q2 q3 q4 q5
              have cq : w1.cell? ⟨w.heap.size + 1, 0, none⟩ = some v' := q1.cell
              have fq : w1.frozen? ⟨w.heap.size + 1, 0, none⟩ = false := q1.frozen
              have kb : ∀ {z : Nat} {t : TypeId} {cs : Array Value}, Blk wr z t cs → t ≠ 36 → z ≠ w.heap.size + 1 → Blk (w1.setCell ⟨w.heap.size + 1, 0, none⟩ (.slice (some ⟨g2, 0, none⟩) (xs.length + 1) cap2)) z t cs := fun hz ht hn =>
                ((hz.alloc ob).grown hgrow3 (Ne.symm (own_ne hv2' hz ht))).far hn _
              have r2 := kb h2' (by decide) (by omega)
              have r3 := kb h3' (by decide) (by omega)
              have r4 := kb h4' (by decide) (by omega)
              have rb : (w1.setCell ⟨w.heap.size + 1, 0, none⟩ (.slice (some ⟨g2, 0, none⟩) (xs.length + 1) cap2)).heap[B4 + 1]? = wr.heap[B4 + 1]? :=
                (Below.heap_setCell w1 _ _ (B4 + 1) (by show B4 + 1 ≠ w.heap.size + 1; omega)).trans ((hgrow3.block (B4 + 1) (by simp; omega) (Ne.symm hv3')).trans (Below.heap_alloc wr ob (B4 + 1) h7'))
              have hs1 : (w1.setCell ⟨w.heap.size + 1, 0, none⟩ (.slice (some ⟨g2, 0, none⟩) (xs.length + 1) cap2)).heap.size ≥ wr.heap.size := q4.size
              have hgne : (Value.slice (some ⟨g2, 0, none⟩) (xs.length + 1) cap2).ownBlock ≠ some (B4 + 1) := by
                rcases hat2 with h | h
                · rw [h]; exact hv3'
                · rw [h, hWCs]; intro e; simp at e; omega
              have HQ3 := Lib.hid q3
              have HK := Lib.hid q4
              have HBL := Lib.hid q5
              have HQ2 := Lib.hid q2
              clear q1 q2 q3 q4 q5 hgrow3 hgrow2 hown2 kb hat2 hnews own1 HWC
              gi_wp2
              refine ⟨HK.out.from _, rb, ?_⟩
              show Inner _ _ _ _ _ _ _ (_ ++ _) _
              rw [round_hit g k (by omega) x pre HF.out, ← HJ.out, ← HXS.out]
              refine ⟨⟨_, HQ2.out, ?_, hgne⟩, r2, r3, r4, h5'.trans HBL.out, ⟨h6'.1, fun D hD => HK.out.same D _ (h6'.2 D hD) rfl⟩, by omega⟩
              rw [cellsR_snoc, List.length_append]
              exact HQ3.out
      case done =>
        intro D W' hD hI hdd
        have hx : rectsTo g k ++ (ivs (g k)).filterMap (rectAt g k) = rectsTo g (k + 1) := (rectsTo_succ g k).symm
        rw [hx] at hI
        obtain ⟨⟨v2, i1, i2, _⟩, i3, i4, _, i6, i7, _⟩ := hI
        have hDD : D ∉ Ds := fun e => by have := (Array.getElem?_eq_some_iff.1 (h6.2 D e)).1; omega
        have hcol : Collected W' (D :: Ds) := ⟨List.nodup_cons.2 ⟨hDD, i7.1⟩, fun E hE => by
          rcases List.mem_cons.1 hE with rfl | hE
          · exact hdd
          · exact i7.2 E hE⟩
        have hge : ∀ E ∈ D :: Ds, w.heap.size ≤ E := fun E hE => by
          rcases List.mem_cons.1 hE with rfl | hE
          · omega
          · exact hDs E hE
        clear hx hdd i7
        go_wp2
        refine ⟨⟨k + 1, D :: Ds, _, _, _, _, _, _, _, _, _, _, by omega, rfl, ⟨v2, i1, i2⟩, i3, i4, i6, hcol, hge⟩, ?_⟩
        simp [muI, intOf]
        omega
    · obtain rfl : k = 64 := by omega
      have H2 := Lib.hid h2
      have H3 := Lib.hid h3
      have HV := Lib.hid hv1
      clear h2 h3 hv1 c1 hlt hk
      go_wp2
      refine leaves_marks Ds W h6 ?_
      intro w' hs ho ht hou hk
      have hown : w'.ownsRow w.heap.size 36 4 v (rectsTo g 64).length (cellsR (rectsTo g 64)) := by
        refine ⟨hv2.1, ?_⟩
        rcases hv2.2 with h | ⟨g', cap, cur, rfl, hb1, hh, hrest⟩
        · exact .inl h
        · exact .inr ⟨g', cap, cur, rfl, hb1, (hk g' (fun e => by have := h6.2 g' e; rw [hh] at this; cases this)).trans hh, hrest⟩
      refine ⟨_, results_tmp rfl _ _ _, v, rfl, Sl.of_own hown, ⟨ho.trans h5.os, ht.trans h5.tape, hou.trans h5.output, by rw [← hs]; exact h5.size, fun i hi => (hk i (fun e => ?_)).trans (h5.block i hi)⟩⟩
      have := hDs i e
      omega
end Go.Proofs.YtplamgmmncenjaaDoorR
