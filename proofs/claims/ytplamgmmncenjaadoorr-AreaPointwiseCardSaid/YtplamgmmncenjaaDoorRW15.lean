/- Walks of the reference: Rects. -/
import Derived.Test.YtplamgmmncenjaaDoorRW14
namespace Go.Proofs.YtplamgmmncenjaaDoorR
open Go.RowKit Go.Shelf
def bcellsN (n : Nat) (G : Grd) : Array Value := Array.ofFn (n := n) fun i => .bool ((G (i.1 / 64)).testBit (i.1 % 64))
theorem bcellsN_size (n : Nat) (G : Grd) : (bcellsN n G).size = n := by simp [bcellsN]
theorem bcellsN_at (n : Nat) (G : Grd) (i : Nat) (h : i < n) : (bcellsN n G)[i]? = some (.bool ((G (i / 64)).testBit (i % 64))) := by simp [bcellsN, h]
theorem bcellsN_one (n : Nat) (G : Grd) : (bcellsN n G).all (·.oneCell') = true := by
  rw [Array.all_eq_true]; intro i hi; simp [bcellsN, Value.oneCell']
def bcells (G : Grd) : Array Value := bcellsN 4096 G
theorem bcells_size (G : Grd) : (bcells G).size = 4096 := bcellsN_size 4096 G
theorem bcells_at (G : Grd) (i : Nat) (h : i < 4096) : (bcells G)[i]? = some (.bool ((G (i / 64)).testBit (i % 64))) := bcellsN_at 4096 G i h
theorem bcells_one (G : Grd) : (bcells G).all (·.oneCell') = true := bcellsN_one 4096 G
theorem bcells_row {G : Grd} {w : World} {B : Nat} {t : TypeId} (h : Blk w B t (bcells G)) (k : Nat) (hk : k < 64) : w.rangeAt B (k * 64) (rowV (G k)).toList := fun j v hv => by
  rw [h.cell]
  have hj : j < 64 := by
    have := (List.getElem?_eq_some_iff.1 hv).1
    simpa [rowV] using this
  rw [bcells_at G _ (by omega), show (k * 64 + j) / 64 = k by omega, show (k * 64 + j) % 64 = j by omega]
  rw [Array.getElem?_toList, rowV_at _ _ hj] at hv
  exact hv
theorem sliceInfo : (Tryd.prog.info? 33).map (fun i => (i.zero, i.size, i.bytes)) = some (some (.slice none 0 0), 1, 24) := by kernel_rfl
theorem wpList_append_one {ops : Array Oper} {rest : List Oper} {o : Oper} {a : Act} {w : World} {Q : Exit → Act → World → Prop} (hgd : o.guard = none) (s x : Operand)
    (ho : o.op = .call { callee := .builtin .append, args := #[s, x], argTypes := #[70, 70] })
    (base : Nat) (v : Value) (vs : List Value) (u : Value) (b c : Nat) (hs : a.eval s = v) (hx : a.eval x = .slice (some ⟨b, 0, none⟩) 1 c) (hown : w.ownsRow base 33 1 v vs.length vs)
    (hb : Blk w b 33 #[u]) (hu1 : u.oneCell' = true) (hlen : vs.length ≤ 100000) (hbase : base ≤ w.heap.size)
    (h : ∀ v' w', w'.ownsRow base 33 1 v' (vs ++ [u]).length (vs ++ [u]) → w.grownBy w' v.ownBlock → (v'.ownBlock = v.ownBlock ∨ v'.ownBlock = some w.heap.size) → wpList Tryd.prog ops Q rest (a.put o.dst v') w') : wpList Tryd.prog ops Q (o :: rest) a w := by
  obtain ⟨i0, hi, hz0, hz1, hz2⟩ := info_parts sliceInfo
  refine wpList_append_own_at _ hgd s x 70 ho base 33 i0 (.slice none 0 0) 1 24 Tryd.underlying70 hi hz0 hz1 hz2 rfl (by decide) v vs.length vs hs hown ⟨b, 0, none⟩ 1 c [u] hx rfl
    (fun j u' hu => by rw [add_zero_off, hb.cell, List.getElem?_toArray]; exact hu) (by intro u' hu'; simp at hu'; subst hu'; exact hu1) (by unfold maxLen; omega) (by omega) hbase ?_
  intro v' w' h1 h2 _ h4
  refine h v' w' ?_ h2 h4
  rw [List.length_append]; exact h1
theorem SlI.grown {w w' : World} {v : Value} {l : List Iv} {row : Option Nat} (h : SlI w v l) (hg : w.grownBy w' row) (hne : ∀ b, v.ownBlock = some b → row ≠ some b) : SlI w' v l := by
  obtain ⟨h1, A, cap, h2, h3, h4, h5⟩ := h
  refine ⟨h1, A, cap, h2, h3, h4, fun hn => ?_⟩
  obtain ⟨b, off, e, hb, hc⟩ := h5 hn
  refine ⟨b, off, e, Nat.lt_of_lt_of_le hb hg.size, fun j u hu => ?_⟩
  rw [gb_cell hg (p := ⟨b, off + j, none⟩) hb (fun e' => hne b (by rw [h2, e]; rfl) e'.symm)]
  exact hc j u hu
theorem SlI.one {w : World} {v : Value} {l : List Iv} (h : SlI w v l) : v.oneCell' = true := by
  obtain ⟨_, A, cap, rfl, _⟩ := h; rfl
theorem SlI.lt {w : World} {v : Value} {l : List Iv} (h : SlI w v l) (hne : l ≠ []) (b : Nat) (hb : v.ownBlock = some b) : b < w.heap.size := by
  obtain ⟨h1, A, cap, rfl, h3, h4, h5⟩ := h
  obtain ⟨b', off, rfl, h6, _⟩ := h5 (List.length_pos_iff.2 hne)
  simp [Value.ownBlock] at hb
  omega
theorem memI_ivs (p : Nat) (q : Iv) : memI q (ivs p) = hasIv p q := by
  rw [Bool.eq_iff_iff, ← mem_ivs]
  unfold memI
  rw [List.any_eq_true]
  constructor
  · rintro ⟨x, hx, h⟩
    rw [decide_eq_true_eq] at h
    rw [← Iv.ext h.1 h.2]; exact hx
  · intro h; exact ⟨q, h, by simp⟩
theorem highF_spec (g : Grd) (q : Iv) : ∀ f b, b ≤ highF g q f b ∧ highF g q f b ≤ b + f ∧ (∀ i, b ≤ i → i < highF g q f b → hasIv (g i) q = true) ∧ (highF g q f b = b + f ∨ hasIv (g (highF g q f b)) q = false)
  | 0, b => ⟨Nat.le_refl _, Nat.le_refl _, fun j h1 h2 => by simp only [highF] at h2; omega, .inl rfl⟩
  | f + 1, b => by
    by_cases h : hasIv (g b) q = true
    · obtain ⟨h1, h2, h3, h4⟩ := highF_spec g q f (b + 1)
      simp only [highF, h, if_true]
      refine ⟨by omega, by omega, fun j hj1 hj2 => ?_, by rcases h4 with h4 | h4; exact .inl (by omega); exact .inr h4⟩
      by_cases hji : j = b
      · subst hji; exact h
      · exact h3 j (by omega) hj2
    · have h' : hasIv (g b) q = false := by simpa using h
      simp only [highF, h', if_neg Bool.false_ne_true]
      exact ⟨Nat.le_refl _, by omega, fun j h1 h2 => by omega, .inr trivial⟩
theorem highOf_unique {g : Grd} {q : Iv} {y j : Nat} (hy : y < 64) (h1 : y < j) (h2 : j ≤ 64) (h3 : ∀ i, y + 1 ≤ i → i < j → hasIv (g i) q = true) (h4 : j = 64 ∨ hasIv (g j) q = false) : highOf g q y = j := by
  obtain ⟨a1, a2, a3, a4⟩ := highF_spec g q (63 - y) (y + 1)
  unfold highOf
  rcases Nat.lt_trichotomy (highF g q (63 - y) (y + 1)) j with h | h | h
  · exfalso
    rcases a4 with a4 | a4
    · omega
    · rw [h3 _ a1 h] at a4; cases a4
  · exact h
  · exfalso
    rcases h4 with h4 | h4
    · omega
    · rw [a3 j (by omega) h] at h4; cases h4
theorem cast64 : ((64 : Nat) : Int) = 64 := rfl
set_option maxRecDepth 100000 in
set_option maxHeartbeats 1000000 in
theorem rectsB_any (G : Grd) (hG : G.ok) (w : World) :
    Calls Tryd.prog 30 #[.agg (bcells G)] w fun e w' => ∃ v, e = .returned v ∧ SlR w' v (rectsG G) ∧ Below w.heap.size w w' := by
  go_enter Tryd.func30, Tryd.ntmps30
  go_wp2
  generalize hW : World.alloc _ _ = W0
  have b0 : Blk W0 w.heap.size 54 (bcells G) := by rw [← hW]; exact Blk.new _ _ _
  have bb : Below w.heap.size w W0 := by rw [← hW]; exact (Below.refl _ _).alloc (Nat.le_refl _) _
  have hW0 : w.heap.size + 1 ≤ W0.heap.size := by rw [← hW]; simp
  clear hW
  obtain ⟨B, hB⟩ : ∃ B, B = w.heap.size := ⟨_, rfl⟩
  rw [← hB] at b0 bb hW0 ⊢
  have HBB := Lib.hid hB
  have B0 := Lib.hid b0
  have BB := Lib.hid bb
  have HG := Lib.hid hG
  clear hB b0 bb hG
  go_loopw [3, 4] (fun rows i wr => ∃ k : Nat, ∃ vs : List Value, k ≤ 64 ∧ i = .int .i64 (k : Int) ∧ vs.length = k ∧ Hid (wr.ownsRow (B + 1) 33 1 rows vs.length vs) ∧ Below (B + 1) W0 wr ∧
    Hid (∀ j (hj : j < vs.length), SlI wr vs[j] (ivs (G j)) ∧ ∀ b, vs[j].ownBlock = some b → b < wr.heap.size ∧ rows.ownBlock ≠ some b)) (fun _ i _ => 64 - (intOf i).toNat)
  case atStart => exact ⟨0, [], by omega, rfl, rfl, Lib.hid (World.ownsRow_nil _ _ _ _), Below.refl _ _, Lib.hid (fun j hj => absurd hj (by simp))⟩
  case round =>
    obtain ⟨k, vs, hk, rfl, hvl, ho, hb, hs⟩ := hrel
    have hbk := B0.out.below hb (Nat.lt_succ_self B)
    have HBK := Lib.hid hbk
    clear hbk
    by_cases hlt : k < 64
    · have i0 : (0 : Int) ≤ (k : Int) := by omega
      have i1 : (k : Int) < 64 := by omega
      go_wp2_with (refine wpList_load_mid rfl 52 _ rfl B (k * 64) (by rfl) (rowV (G k)).toList _ (bcells_row HBK.out k hlt) Tryd.underlying52 rfl (by rw [Array.length_toList, rowV_size]; kernel_rfl) ?_)
      refine (intervalsB_any (G k) (HG.out k) wr).mono ?_
      rintro e w1 ⟨v0, rfl, hv, hfr, hb1⟩
      obtain ⟨A', c', rfl, _, _, _⟩ := hv.form
      obtain ⟨n', hn'⟩ : ∃ n, n = (ivs (G k)).length := ⟨_, rfl⟩
      rw [← hn'] at hv hfr ⊢
      obtain ⟨v, hvdef⟩ : ∃ v, v = Value.slice A' n' c' := ⟨_, rfl⟩
      rw [← hvdef] at hv hfr
      have hsz := hb.size
      have hsz1 := hb1.size
      have hbb := hb.trans (hb1.mono (by omega))
      have ho1 := ho.out.kept (gb_below hb1 none) (by cases hv : u3.ownBlock <;> simp)
      have hs1 : ∀ j (hj : j < vs.length), SlI w1 vs[j] (ivs (G j)) ∧ ∀ b, vs[j].ownBlock = some b → b < wr.heap.size ∧ u3.ownBlock ≠ some b := fun j hj => ⟨(hs.out j hj).1.below hb1, (hs.out j hj).2⟩
      have hub : ∀ b, u3.ownBlock = some b → b < wr.heap.size := fun b e => (ho.out.lt b e).2
      have hone := hv.one
      have HO1 := Lib.hid ho1
      have HS1 := Lib.hid hs1
      have HV := Lib.hid hv
      have HFR := Lib.hid hfr
      have HBB1 := Lib.hid hbb
      have HUB := Lib.hid hub
      have HONE := Lib.hid hone
      have HVD := Lib.hid hvdef
      clear ho1 hs1 hv hfr hbb hub hs ho hb hb1 hone hvdef hn'
      go_wp2_with (refine wpList_append_one rfl (.tmp 14) (.tmp 19) rfl (B + 1) u3 vs v w1.heap.size _ rfl rfl (HO1.out.alloc _) (by rw [HVD.out]; exact Blk.new _ _ _) HONE.out (by omega) (by simp; omega) ?_)
      intro v' w2 ho2 hg2 hwh
      have hb2 : Below (B + 1) W0 w2 := own_below (HBB1.out.alloc (by omega) _) (HO1.out.alloc _) (by simp; omega) hg2
      have hgg : w1.grownBy w2 u3.ownBlock := gb_trans (gb_alloc (gb_refl w1 _) _) hg2
      have hvb : ∀ b, v'.ownBlock = some b → u3.ownBlock = some b ∨ b = w1.heap.size + 1 := fun b e => by
        rcases hwh with h | h
        · left; rw [← h]; exact e
        · right; rw [h] at e; simpa using e.symm
      have hs2 : ∀ j (hj : j < (vs ++ [v]).length), SlI w2 (vs ++ [v])[j] (ivs (G j)) ∧ ∀ b, (vs ++ [v])[j].ownBlock = some b → b < w2.heap.size ∧ v'.ownBlock ≠ some b := fun j hj => by
        have hz := hgg.size
        by_cases h : j < vs.length
        · rw [List.getElem_append_left h]
          obtain ⟨h1, h2⟩ := HS1.out j h
          refine ⟨h1.grown hgg (fun b e => (h2 b e).2), fun b e => ⟨by have := (h2 b e).1; omega, fun e' => ?_⟩⟩
          rcases hvb b e' with h3 | h3
          · exact (h2 b e).2 h3
          · have := (h2 b e).1; omega
        · have hj' : j = vs.length := by simp at hj; omega
          subst hj'
          rw [List.getElem_append_right (Nat.le_refl _)]
          simp only [Nat.sub_self, List.getElem_cons_zero]
          rw [hvl]
          refine ⟨HV.out.grown hgg (fun b e e' => ?_), fun b e => ⟨by have := (HFR.out b e).2; omega, fun e' => ?_⟩⟩
          · have := HUB.out b e'; have := (HFR.out b e).1; omega
          · rcases hvb b e' with h3 | h3
            · have := HUB.out b h3; have := (HFR.out b e).1; omega
            · have := (HFR.out b e).2; omega
      have e : (vs ++ [v]).length = k + 1 := by simp [hvl]
      rw [← e] at ho2
      have HO2 := Lib.hid ho2
      have HS2 := Lib.hid hs2
      have HB2 := Lib.hid hb2
      have HE := Lib.hid e
      clear ho2 hg2 hwh hs2 hb2 hgg hvb e
      go_wp2
      go_roundw
      case rel => exact ⟨k + 1, vs ++ [v], by omega, by go_num, HE.out, HO2, HB2.out, HS2⟩
      case measure => simp [intOf]; omega
    · obtain rfl : k = 64 := by omega
      have ho' := ho.out
      rw [hvl] at ho'
      obtain ⟨R, cap, hR⟩ : ∃ R cap, u3 = Value.slice (some ⟨R, 0, none⟩) 64 cap := ownsRow_succ ho'
      subst hR
      have hcap : 64 ≤ cap := by
        rcases ho'.2 with ⟨_, h0⟩ | ⟨g, cap', cur, h1, _, _, h4, _⟩
        · omega
        · cases h1; exact h4
      have hRl : R < wr.heap.size := (ho'.lt R rfl).2
      obtain ⟨H2, hH2⟩ : ∃ h, h = wr.heap.size := ⟨_, rfl⟩
      have hrow : ∀ y, y < 64 → ∃ A c, wr.cell? ⟨R, y, none⟩ = some (.slice A (ivs (G y)).length c) ∧ SlI wr (.slice A (ivs (G y)).length c) (ivs (G y)) := fun y hy => by
        obtain ⟨h1, h2⟩ := hs.out y (by omega)
        obtain ⟨A, c, h3, _, _, _⟩ := h1.form
        have h5 := ho'.cells rfl y vs[y] (by simp)
        rw [add_zero_off] at h5
        rw [h3] at h5 h1
        exact ⟨A, c, h5, h1⟩
      have HROW := Lib.hid hrow
      have hbw : Below w.heap.size w wr := by rw [← HBB.out]; exact BB.out.trans (hb.mono (Nat.le_succ _))
      have HBW := Lib.hid hbw
      rw [← hH2] at hRl
      have HH2 := Lib.hid hH2
      clear hrow hbw hb hs ho ho' hH2 HBK
      generalize wr = W2 at *
      go_wp2
      simp only [cast64]
      go_loopw [5, 6, 7, 8, 9] (fun out y _ _ _ wr => ∃ k : Nat, k ≤ 64 ∧ y = .int .i64 (k : Int) ∧ Hid (wr.ownsRow H2 36 4 out (rectsTo G k).length (cellsR (rectsTo G k))) ∧ Below H2 W2 wr) (fun _ y _ _ _ _ => 64 - (intOf y).toNat)
      case atStart => exact ⟨0, by omega, rfl, Lib.hid (World.ownsRow_nil _ _ _ _), Below.refl _ _⟩
      case round =>
        obtain ⟨k, hk, rfl, ho, hb⟩ := hrel
        by_cases hlt : k < 64
        · have i0 : (0 : Int) ≤ (k : Int) := by omega
          have i1 : (k : Int) < 64 := by omega
          obtain ⟨A, c, hc, hsl⟩ := HROW.out k hlt
          obtain ⟨L, hL⟩ : ∃ L, L = ivs (G k) := ⟨_, rfl⟩
          rw [← hL] at hc hsl
          obtain ⟨n, hn⟩ : ∃ n, n = L.length := ⟨_, rfl⟩
          have hn64 : n ≤ 64 := by rw [hn, hL]; exact ivsTo_len _ _
          rw [← hn] at hc hsl
          have HLL := Lib.hid hL
          have HN := Lib.hid hn
          have HSL := Lib.hid hsl
          clear hL hn hsl
          have cellR : ∀ w', Below H2 W2 w' → w'.cell? ⟨R, k, none⟩ = some (.slice A n c) := fun w' h => (h.cell (p := ⟨R, k, none⟩) hRl).trans hc
          have CR := Lib.hid cellR
          clear cellR hc
          go_wp2
          go_loopw [5, 7, 8, 9] (fun out i _ _ wr' => ∃ j : Nat, j ≤ n ∧ i = .int .i64 (j : Int) ∧ Hid (wr'.ownsRow H2 36 4 out (rectsTo G k ++ (L.take j).filterMap (rectAt G k)).length (cellsR (rectsTo G k ++ (L.take j).filterMap (rectAt G k)))) ∧ Below H2 W2 wr') (fun _ i _ _ _ => n - (intOf i).toNat)
          case atStart => exact ⟨0, by omega, rfl, by simpa using ho, hb⟩
          case round =>
            obtain ⟨j, hj, rfl, ho2, hb2⟩ := hrel
            have cR := CR.out _ hb2
            by_cases hjl : j < n
            · have j0 : (0 : Int) ≤ (j : Int) := by omega
              have j1 : (j : Int) < (n : Int) := by omega
              --GEN
              obtain ⟨A0, c0, hA0, hlc, _, hcL0⟩ := HSL.out.form
              cases hA0
              obtain ⟨bL, oL, rfl, hbL, hcL⟩ := hcL0 j (by rw [← HN.out]; exact hjl)
              have hjL : j < L.length := by rw [← HN.out]; exact hjl
              obtain ⟨p1, p2⟩ := hcL j hjL
              obtain ⟨x, hx⟩ : ∃ x, x = L[j] := ⟨_, rfl⟩
              rw [← hx] at p1 p2
              have hxm : x ∈ ivs (G k) := by rw [hx, ← HLL.out]; exact List.getElem_mem _
              have hxk := mem_ivs.1 hxm
              have htk : rectsTo G k ++ (L.take (j + 1)).filterMap (rectAt G k) = (rectsTo G k ++ (L.take j).filterMap (rectAt G k)) ++ (rectAt G k x).toList := by
                rw [List.take_succ_eq_append_getElem hjL, List.filterMap_append, ← hx, List.append_assoc]
                cases h : rectAt G k x <;> simp [h]
              have hlenb : (rectsTo G k ++ (L.take j).filterMap (rectAt G k)).length ≤ 100000 := by
                have h1 := rectsTo_len G k
                have h2 : ((L.take j).filterMap (rectAt G k)).length ≤ (L.take j).length := List.length_filterMap_le _ _
                rw [List.length_take] at h2
                rw [List.length_append]; omega
              rw [← hb2.cell (p := ⟨bL, _, none⟩) (by rw [HH2.out]; exact hbL)] at p1 p2
              obtain ⟨xs, hxs⟩ : ∃ xs, xs = rectsTo G k ++ (L.take j).filterMap (rectAt G k) := ⟨_, rfl⟩
              rw [← hxs] at htk hlenb ho2
              have HLJ := Lib.hid hxs
              have XK := Lib.hid hxk
              have TK := Lib.hid htk
              have XLEN := Lib.hid hlenb
              clear hxs hxk htk hlenb hx hxm hcL hcL0
              go_wp2
              generalize hW3 : World.alloc _ _ = W3
              obtain ⟨X, hX⟩ : ∃ X, X = wr.heap.size := ⟨_, rfl⟩
              rw [← hX]
              have bX : Blk W3 X 32 #[.int .i64 (x.l : Int), .int .i64 (x.r : Int)] := by rw [← hW3, hX]; exact Blk.new _ _ _
              have hX1 : X + 1 = W3.heap.size := by rw [← hW3, hX]; simp
              have hX2 : H2 ≤ X := by rw [hX]; have := hb2.size; have := HH2.out; omega
              have hb3 : Below H2 W2 W3 := by rw [← hW3]; exact hb2.alloc (by omega) _
              have ho3 : W3.ownsRow H2 36 4 u5 xs.length (cellsR xs) := by rw [← hW3]; exact ho2.out.alloc _
              have hx0 := bX.cell 0
              have hx1 := bX.cell 1
              simp only [List.getElem?_toArray, List.getElem?_cons_zero, List.getElem?_cons_succ] at hx0 hx1
              have BX := Lib.hid bX
              have X1 := Lib.hid hX1
              have HX2 := Lib.hid (show H2 ≤ X + 1 by omega)
              have HB3 := Lib.hid hb3
              have OWN := Lib.hid ho3
              clear bX hb3 ho3 hW3 hX p1 p2 ho2 hb2 cR hbL
              by_cases hk0 : 0 < k
              · have k0 : (0 : Int) < (k : Int) := by omega
                have k1 : (0 : Int) ≤ (k : Int) - 1 := by omega
                have k2 : ((k : Int) - 1).toNat = k - 1 := by omega
                obtain ⟨Am, cm, hcm, hslm⟩ := HROW.out (k - 1) (by omega)
                have hcm' := (HB3.out.cell (p := ⟨R, k - 1, none⟩) hRl).trans hcm
                have hslm' := hslm.below (HB3.out.mono (Nat.le_of_eq (Eq.symm HH2.out)))
                obtain ⟨nm, hnm⟩ : ∃ n, n = (ivs (G (k - 1))).length := ⟨_, rfl⟩
                rw [← hnm] at hcm' hslm'
                have SM := Lib.hid hslm'
                clear hslm hslm' hcm hnm
                refine region_quiet_tail_lit 9 (by kernel_rfl) (by kernel_rfl) ?_
                simp only [List.take_succ_cons, List.take_zero, List.drop_succ_cons, List.drop_zero]
                repeat (go_big_quiet_step (fail))
                refine wpQuiet_nil ?_
                intro _ hw'
                obtain ⟨nq, hw''⟩ := hw'
                subst hw''
                go_wp2_with (fail)
                refine (hasB_any (ivs (G (k - 1))) _ x _ (Sl.drewN SM.out nq)).mono ?_
                rintro e w5 ⟨rfl, hb6⟩
                have bst : Below (X + 1) W3 w5 := by
                  have := (below_drewN (Below.refl W3.heap.size W3) nq).trans hb6
                  rw [hX1]; exact this
                have BST := Lib.hid bst
                obtain ⟨f, hf⟩ : ∃ f, f = memI x (ivs (G (k - 1))) := ⟨_, rfl⟩
                rw [← hf]
                rw [memI_ivs] at hf
                have HFF := Lib.hid hf
                clear hf hb6 hx0 hx1 bst hcm'
                cases hff : f
                · have nosk : ¬ (0 < k ∧ hasIv (G (k - 1)) x = true) := fun h => by rw [← HFF.out, hff] at h; exact absurd h.2 (by decide)
                  have NOSKIP := Lib.hid nosk
                  clear nosk hff hX1
                  go_wp2
                  go_loopw [9] (fun b wr' => ∃ m : Nat, k ≤ m ∧ m ≤ 64 ∧ b = .int .i64 (m : Int) ∧ Below (X + 1) W3 wr' ∧ Hid (∀ i, k ≤ i → i < m → hasIv (G i) x = true)) (fun b _ => 64 - (intOf b).toNat)
                  case atStart => exact ⟨k, by omega, by omega, rfl, BST.out, Lib.hid (fun i h1 h2 => by omega)⟩
                  case round =>
                    obtain ⟨m, hm1, hm2, rfl, hb4, hall⟩ := hrel
                    have m0 : (0 : Int) ≤ (m : Int) := by omega
                    have done : (m = 64 ∨ hasIv (G m) x = false) → k < m ∧ highOf G x k = m := fun h => by
                      have hkm : k < m := by
                        rcases h with h | h
                        · omega
                        · rcases Nat.lt_or_ge k m with h' | h'
                          · exact h'
                          · obtain rfl : m = k := by omega
                            rw [XK.out] at h; cases h
                      exact ⟨hkm, highOf_unique hlt hkm hm2 (fun i h1 h2 => hall.out i (by omega) h2) h⟩
                    have DONE := Lib.hid done
                    clear done
                    by_cases hm64 : m < 64
                    · have m1 : (m : Int) < 64 := by omega
                      obtain ⟨Am, cm, hcm, hslm⟩ := HROW.out m hm64
                      have hb5 : Below H2 W2 wr := HB3.out.trans (hb4.mono HX2.out)
                      have hcm' := (hb5.cell (p := ⟨R, m, none⟩) hRl).trans hcm
                      have hslm' := hslm.below (hb5.mono (Nat.le_of_eq (Eq.symm HH2.out)))
                      have hx0 := (BX.out.below hb4 (by omega)).cell 0
                      have hx1 := (BX.out.below hb4 (by omega)).cell 1
                      simp only [List.getElem?_toArray, List.getElem?_cons_zero, List.getElem?_cons_succ] at hx0 hx1
                      obtain ⟨nm, hnm⟩ : ∃ n, n = (ivs (G m)).length := ⟨_, rfl⟩
                      rw [← hnm] at hcm' hslm'
                      have SM := Lib.hid hslm'
                      clear hslm hslm' hcm hb5 hnm
                      go_wp2
                      refine region_quiet_tail_lit 8 (by kernel_rfl) (by kernel_rfl) ?_
                      simp only [List.take_succ_cons, List.take_zero, List.drop_succ_cons, List.drop_zero]
                      repeat (go_big_quiet_step (fail))
                      refine wpQuiet_nil ?_
                      intro _ hw'
                      obtain ⟨nq, hw''⟩ := hw'
                      subst hw''
                      go_wp2_with (fail)
                      refine (hasB_any (ivs (G m)) _ x _ (Sl.drewN SM.out nq)).mono ?_
                      rintro e w5 ⟨rfl, hb6⟩
                      have hb7 := (below_drewN hb4 nq).trans (hb6.mono (by rw [X1.out]; exact hb4.size))
                      obtain ⟨f, hf⟩ : ∃ f, f = memI x (ivs (G m)) := ⟨_, rfl⟩
                      rw [← hf]
                      rw [memI_ivs] at hf
                      have HFF := Lib.hid hf
                      clear hf hb6 hb4 hx0 hx1
                      cases hff : f
                      · have hno : hasIv (G m) x = false := by rw [← HFF.out, hff]
                        have HNO := Lib.hid hno
                        clear hno hff
                        obtain ⟨hkm, hhigh⟩ := DONE.out (.inr HNO.out)
                        have hra : rectAt G k x = some ⟨x.l, x.r, k, m⟩ := by
                          unfold rectAt
                          rw [if_neg NOSKIP.out, hhigh]
                        have hnx := TK.out
                        rw [hra] at hnx
                        simp only [Option.toList_some] at hnx
                        have hx0 := (BX.out.below hb7 (by omega)).cell 0
                        have hx1 := (BX.out.below hb7 (by omega)).cell 1
                        simp only [List.getElem?_toArray, List.getElem?_cons_zero, List.getElem?_cons_succ] at hx0 hx1
                        have ho4 := OWN.out.kept (gb_below (hb7.mono (Nat.le_of_eq (Eq.symm X1.out))) none) (by cases hv : u5.ownBlock <;> simp)
                        have hb5 := HB3.out.trans (hb7.mono HX2.out)
                        have hsz4 : H2 ≤ w5.heap.size := Nat.le_trans (Nat.le_of_eq HH2.out) hb5.size
                        have HNX := Lib.hid hnx
                        have HO4 := Lib.hid ho4
                        have HB5 := Lib.hid hb5
                        clear hnx ho4 hb5 hhigh hra
                        go_wp2_with (refine wpList_append_rect rfl (.tmp 65) (.tmp 73) rfl H2 u5 xs ⟨x.l, x.r, k, m⟩ w5.heap.size _ rfl rfl (HO4.out.alloc _) (Blk.new _ _ _) XLEN.out (by simp; omega) ?_)
                        intro v' w6 ho6 hg6
                        have hb6 : Below H2 W2 w6 := own_below (HB5.out.alloc hsz4 _) (HO4.out.alloc _) (by simp; omega) hg6
                        have ho7 : w6.ownsRow H2 36 4 v' (rectsTo G k ++ (L.take (j + 1)).filterMap (rectAt G k)).length (cellsR (rectsTo G k ++ (L.take (j + 1)).filterMap (rectAt G k))) := by
                          have e : (xs ++ [(⟨x.l, x.r, k, m⟩ : Rct)]).length = xs.length + 1 := by simp
                          rw [HNX.out, e]; exact ho6
                        have HO7 := Lib.hid ho7
                        have HB6 := Lib.hid hb6
                        clear ho6 hg6 hb6 ho7 hx0 hx1
                        go_wp2
                        go_roundw
                        case rel => exact ⟨j + 1, by omega, by go_num, HO7, HB6.out⟩
                        case measure => simp [intOf]; omega
                      · have hall' : ∀ i, k ≤ i → i < m + 1 → hasIv (G i) x = true := fun i h1 h2 => by
                          by_cases e : i = m
                          · rw [e, ← HFF.out, hff]
                          · exact hall.out i h1 (by omega)
                        have HALL := Lib.hid hall'
                        clear hall' hff
                        go_wp2
                        go_roundw
                        case rel => exact ⟨m + 1, by omega, by omega, by go_num, hb7, HALL⟩
                        case measure => simp [intOf]; omega
                    · obtain rfl : m = 64 := by omega
                      go_wp2
                      go_quiet (fail)
                      have hb7 := below_drewN hb4 nq
                      obtain ⟨hkm, hhigh⟩ := DONE.out (by simp)
                      have hra : rectAt G k x = some ⟨x.l, x.r, k, 64⟩ := by
                        unfold rectAt
                        rw [if_neg NOSKIP.out, hhigh]; rfl
                      have hnx := TK.out
                      rw [hra] at hnx
                      simp only [Option.toList_some] at hnx
                      have hx0 := (BX.out.below hb7 (by omega)).cell 0
                      have hx1 := (BX.out.below hb7 (by omega)).cell 1
                      simp only [List.getElem?_toArray, List.getElem?_cons_zero, List.getElem?_cons_succ] at hx0 hx1
                      have ho4 := OWN.out.kept (gb_below (hb7.mono (Nat.le_of_eq (Eq.symm X1.out))) none) (by cases hv : u5.ownBlock <;> simp)
                      have hb5 := HB3.out.trans (hb7.mono HX2.out)
                      have hsz4 : H2 ≤ wr.heap.size := Nat.le_trans (Nat.le_of_eq HH2.out) hb5.size
                      have HNX := Lib.hid hnx
                      have HO4 := Lib.hid ho4
                      have HB5 := Lib.hid hb5
                      clear hnx ho4 hb5 hhigh hra
                      go_wp2_with (refine wpList_append_rect rfl (.tmp 65) (.tmp 73) rfl H2 u5 xs ⟨x.l, x.r, k, 64⟩ wr.heap.size _ rfl rfl (HO4.out.alloc _) (Blk.new _ _ _) XLEN.out (by simp; omega) ?_)
                      intro v' w6 ho6 hg6
                      have hb6 : Below H2 W2 w6 := own_below (HB5.out.alloc hsz4 _) (HO4.out.alloc _) (by simp; omega) hg6
                      have ho7 : w6.ownsRow H2 36 4 v' (rectsTo G k ++ (L.take (j + 1)).filterMap (rectAt G k)).length (cellsR (rectsTo G k ++ (L.take (j + 1)).filterMap (rectAt G k))) := by
                        have e : (xs ++ [(⟨x.l, x.r, k, 64⟩ : Rct)]).length = xs.length + 1 := by simp
                        rw [HNX.out, e]; exact ho6
                      have HO7 := Lib.hid ho7
                      have HB6 := Lib.hid hb6
                      clear ho6 hg6 hb6 ho7 hx0 hx1
                      go_wp2
                      go_roundw
                      case rel => exact ⟨j + 1, by omega, by go_num, HO7, HB6.out⟩
                      case measure => simp [intOf]; omega
                · have hra : rectAt G k x = none := by
                    unfold rectAt
                    rw [if_pos ⟨hk0, by rw [← HFF.out, hff]⟩]
                  have hnx := TK.out
                  rw [hra] at hnx
                  simp only [Option.toList_none, List.append_nil] at hnx
                  have ho7 : w5.ownsRow H2 36 4 u5 (rectsTo G k ++ (L.take (j + 1)).filterMap (rectAt G k)).length (cellsR (rectsTo G k ++ (L.take (j + 1)).filterMap (rectAt G k))) := by
                    rw [hnx]
                    exact OWN.out.kept (gb_below (BST.out.mono (Nat.le_of_eq (Eq.symm X1.out))) none) (by cases hv : u5.ownBlock <;> simp)
                  have hb6 : Below H2 W2 w5 := HB3.out.trans (BST.out.mono HX2.out)
                  have HO7 := Lib.hid ho7
                  have HB6 := Lib.hid hb6
                  clear hra hnx ho7 hb6 hff hX1
                  go_wp2
                  go_roundw
                  case rel => exact ⟨j + 1, by omega, by go_num, HO7, HB6.out⟩
                  case measure => simp [intOf]; omega
              · have hk00 : k = 0 := by omega
                have k0 : ¬ (0 : Int) < (k : Int) := by omega
                have nosk : ¬ (0 < k ∧ hasIv (G (k - 1)) x = true) := fun h => hk0 h.1
                have NOSKIP := Lib.hid nosk
                have hbq : ∀ n, Below (X + 1) W3 (W3.drewN n) := fun n => below_drewN (Below.refl _ _) n
                clear nosk hX1 hk00
                go_quiet (fail)
                have BST := Lib.hid (hbq nq)
                clear hbq hx0 hx1
                go_wp2
                go_loopw [9] (fun b wr' => ∃ m : Nat, k ≤ m ∧ m ≤ 64 ∧ b = .int .i64 (m : Int) ∧ Below (X + 1) W3 wr' ∧ Hid (∀ i, k ≤ i → i < m → hasIv (G i) x = true)) (fun b _ => 64 - (intOf b).toNat)
                case atStart => exact ⟨k, by omega, by omega, rfl, BST.out, Lib.hid (fun i h1 h2 => by omega)⟩
                case round =>
                  obtain ⟨m, hm1, hm2, rfl, hb4, hall⟩ := hrel
                  have m0 : (0 : Int) ≤ (m : Int) := by omega
                  have done : (m = 64 ∨ hasIv (G m) x = false) → k < m ∧ highOf G x k = m := fun h => by
                    have hkm : k < m := by
                      rcases h with h | h
                      · omega
                      · rcases Nat.lt_or_ge k m with h' | h'
                        · exact h'
                        · obtain rfl : m = k := by omega
                          rw [XK.out] at h; cases h
                    exact ⟨hkm, highOf_unique hlt hkm hm2 (fun i h1 h2 => hall.out i (by omega) h2) h⟩
                  have DONE := Lib.hid done
                  clear done
                  by_cases hm64 : m < 64
                  · have m1 : (m : Int) < 64 := by omega
                    obtain ⟨Am, cm, hcm, hslm⟩ := HROW.out m hm64
                    have hb5 : Below H2 W2 wr := HB3.out.trans (hb4.mono HX2.out)
                    have hcm' := (hb5.cell (p := ⟨R, m, none⟩) hRl).trans hcm
                    have hslm' := hslm.below (hb5.mono (Nat.le_of_eq (Eq.symm HH2.out)))
                    have hx0 := (BX.out.below hb4 (by omega)).cell 0
                    have hx1 := (BX.out.below hb4 (by omega)).cell 1
                    simp only [List.getElem?_toArray, List.getElem?_cons_zero, List.getElem?_cons_succ] at hx0 hx1
                    obtain ⟨nm, hnm⟩ : ∃ n, n = (ivs (G m)).length := ⟨_, rfl⟩
                    rw [← hnm] at hcm' hslm'
                    have SM := Lib.hid hslm'
                    clear hslm hslm' hcm hb5 hnm
                    go_wp2
                    refine region_quiet_tail_lit 8 (by kernel_rfl) (by kernel_rfl) ?_
                    simp only [List.take_succ_cons, List.take_zero, List.drop_succ_cons, List.drop_zero]
                    repeat (go_big_quiet_step (fail))
                    refine wpQuiet_nil ?_
                    intro _ hw'
                    obtain ⟨nq, hw''⟩ := hw'
                    subst hw''
                    go_wp2_with (fail)
                    refine (hasB_any (ivs (G m)) _ x _ (Sl.drewN SM.out nq)).mono ?_
                    rintro e w5 ⟨rfl, hb6⟩
                    have hb7 := (below_drewN hb4 nq).trans (hb6.mono (by rw [X1.out]; exact hb4.size))
                    obtain ⟨f, hf⟩ : ∃ f, f = memI x (ivs (G m)) := ⟨_, rfl⟩
                    rw [← hf]
                    rw [memI_ivs] at hf
                    have HFF := Lib.hid hf
                    clear hf hb6 hb4 hx0 hx1
                    cases hff : f
                    · have hno : hasIv (G m) x = false := by rw [← HFF.out, hff]
                      have HNO := Lib.hid hno
                      clear hno hff
                      obtain ⟨hkm, hhigh⟩ := DONE.out (.inr HNO.out)
                      have hra : rectAt G k x = some ⟨x.l, x.r, k, m⟩ := by
                        unfold rectAt
                        rw [if_neg NOSKIP.out, hhigh]
                      have hnx := TK.out
                      rw [hra] at hnx
                      simp only [Option.toList_some] at hnx
                      have hx0 := (BX.out.below hb7 (by omega)).cell 0
                      have hx1 := (BX.out.below hb7 (by omega)).cell 1
                      simp only [List.getElem?_toArray, List.getElem?_cons_zero, List.getElem?_cons_succ] at hx0 hx1
                      have ho4 := OWN.out.kept (gb_below (hb7.mono (Nat.le_of_eq (Eq.symm X1.out))) none) (by cases hv : u5.ownBlock <;> simp)
                      have hb5 := HB3.out.trans (hb7.mono HX2.out)
                      have hsz4 : H2 ≤ w5.heap.size := Nat.le_trans (Nat.le_of_eq HH2.out) hb5.size
                      have HNX := Lib.hid hnx
                      have HO4 := Lib.hid ho4
                      have HB5 := Lib.hid hb5
                      clear hnx ho4 hb5 hhigh hra
                      go_wp2_with (refine wpList_append_rect rfl (.tmp 65) (.tmp 73) rfl H2 u5 xs ⟨x.l, x.r, k, m⟩ w5.heap.size _ rfl rfl (HO4.out.alloc _) (Blk.new _ _ _) XLEN.out (by simp; omega) ?_)
                      intro v' w6 ho6 hg6
                      have hb6 : Below H2 W2 w6 := own_below (HB5.out.alloc hsz4 _) (HO4.out.alloc _) (by simp; omega) hg6
                      have ho7 : w6.ownsRow H2 36 4 v' (rectsTo G k ++ (L.take (j + 1)).filterMap (rectAt G k)).length (cellsR (rectsTo G k ++ (L.take (j + 1)).filterMap (rectAt G k))) := by
                        have e : (xs ++ [(⟨x.l, x.r, k, m⟩ : Rct)]).length = xs.length + 1 := by simp
                        rw [HNX.out, e]; exact ho6
                      have HO7 := Lib.hid ho7
                      have HB6 := Lib.hid hb6
                      clear ho6 hg6 hb6 ho7 hx0 hx1
                      go_wp2
                      go_roundw
                      case rel => exact ⟨j + 1, by omega, by go_num, HO7, HB6.out⟩
                      case measure => simp [intOf]; omega
                    · have hall' : ∀ i, k ≤ i → i < m + 1 → hasIv (G i) x = true := fun i h1 h2 => by
                        by_cases e : i = m
                        · rw [e, ← HFF.out, hff]
                        · exact hall.out i h1 (by omega)
                      have HALL := Lib.hid hall'
                      clear hall' hff
                      go_wp2
                      go_roundw
                      case rel => exact ⟨m + 1, by omega, by omega, by go_num, hb7, HALL⟩
                      case measure => simp [intOf]; omega
                  · obtain rfl : m = 64 := by omega
                    go_wp2
                    go_quiet (fail)
                    have hb7 := below_drewN hb4 nq
                    obtain ⟨hkm, hhigh⟩ := DONE.out (by simp)
                    have hra : rectAt G k x = some ⟨x.l, x.r, k, 64⟩ := by
                      unfold rectAt
                      rw [if_neg NOSKIP.out, hhigh]; rfl
                    have hnx := TK.out
                    rw [hra] at hnx
                    simp only [Option.toList_some] at hnx
                    have hx0 := (BX.out.below hb7 (by omega)).cell 0
                    have hx1 := (BX.out.below hb7 (by omega)).cell 1
                    simp only [List.getElem?_toArray, List.getElem?_cons_zero, List.getElem?_cons_succ] at hx0 hx1
                    have ho4 := OWN.out.kept (gb_below (hb7.mono (Nat.le_of_eq (Eq.symm X1.out))) none) (by cases hv : u5.ownBlock <;> simp)
                    have hb5 := HB3.out.trans (hb7.mono HX2.out)
                    have hsz4 : H2 ≤ wr.heap.size := Nat.le_trans (Nat.le_of_eq HH2.out) hb5.size
                    have HNX := Lib.hid hnx
                    have HO4 := Lib.hid ho4
                    have HB5 := Lib.hid hb5
                    clear hnx ho4 hb5 hhigh hra
                    go_wp2_with (refine wpList_append_rect rfl (.tmp 65) (.tmp 73) rfl H2 u5 xs ⟨x.l, x.r, k, 64⟩ wr.heap.size _ rfl rfl (HO4.out.alloc _) (Blk.new _ _ _) XLEN.out (by simp; omega) ?_)
                    intro v' w6 ho6 hg6
                    have hb6 : Below H2 W2 w6 := own_below (HB5.out.alloc hsz4 _) (HO4.out.alloc _) (by simp; omega) hg6
                    have ho7 : w6.ownsRow H2 36 4 v' (rectsTo G k ++ (L.take (j + 1)).filterMap (rectAt G k)).length (cellsR (rectsTo G k ++ (L.take (j + 1)).filterMap (rectAt G k))) := by
                      have e : (xs ++ [(⟨x.l, x.r, k, 64⟩ : Rct)]).length = xs.length + 1 := by simp
                      rw [HNX.out, e]; exact ho6
                    have HO7 := Lib.hid ho7
                    have HB6 := Lib.hid hb6
                    clear ho6 hg6 hb6 ho7 hx0 hx1
                    go_wp2
                    go_roundw
                    case rel => exact ⟨j + 1, by omega, by go_num, HO7, HB6.out⟩
                    case measure => simp [intOf]; omega
            · have hjn : j = n := by omega
              have htk : (L.take j) = L := List.take_of_length_le (by rw [← HN.out]; omega)
              have hnx : rectsTo G k ++ (L.take j).filterMap (rectAt G k) = rectsTo G (k + 1) := by
                rw [htk, rectsTo_succ, HLL.out]; rfl
              have ho7 := ho2.out
              rw [hnx] at ho7
              have HO7 := Lib.hid ho7
              clear htk hnx ho7 ho2
              go_wp2
              go_roundw
              case rel => exact ⟨k + 1, by omega, by go_num, HO7, hb2⟩
              case measure => simp [intOf]; omega
        · obtain rfl : k = 64 := by omega
          have hfin : SlR wr u5 (rectsG G) := Sl.of_own ho.out
          have HFIN := Lib.hid hfin
          clear hfin
          go_wp2
          go_ret
          exact ⟨_, rfl, HFIN.out, HBW.out.trans (hb.mono (by have := HBW.out.size; have := HH2.out; omega))⟩
end Go.Proofs.YtplamgmmncenjaaDoorR
