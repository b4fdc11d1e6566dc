/- Walks of the reference: intervals, has. -/
import Derived.Test.YtplamgmmncenjaaDoorRW13
import Derived.ChangeKeysEq
namespace Go.Proofs.YtplamgmmncenjaaDoorR
open Go.RowKit Go.Shelf
def rowV (p : Nat) : Array Value := Array.ofFn (n := 64) fun i => .bool (p.testBit i.1)
theorem rowV_size (p : Nat) : (rowV p).size = 64 := by simp [rowV]
theorem rowV_at (p k : Nat) (h : k < 64) : (rowV p)[k]? = some (.bool (p.testBit k)) := by simp [rowV, h]
def encI (q : Iv) : List Value := [.int .i64 (q.l : Int), .int .i64 (q.r : Int)]
def cellsI (l : List Iv) : List Value := l.flatMap encI
theorem cellsI_snoc (l : List Iv) (q : Iv) : cellsI (l ++ [q]) = cellsI l ++ encI q := by simp [cellsI]
theorem cellsI_len (l : List Iv) : (cellsI l).length = l.length * 2 := by
  induction l with
  | nil => rfl
  | cons q l ih => show (encI q ++ cellsI l).length = _; rw [List.length_append, ih, List.length_cons]; show 2 + l.length * 2 = _; omega
def SlI (w : World) (v : Value) (l : List Iv) : Prop := Sl w 2 v l.length (cellsI l)
theorem pairInfo : (Tryd.prog.info? 32).map (fun i => (i.zero, i.size, i.bytes)) = some (some (.agg #[.int .i64 0, .int .i64 0]), 2, 16) := by kernel_rfl
theorem rowInfo : (Tryd.prog.info? 52).map (·.size) = some 64 := by kernel_rfl
theorem wpList_append_pair {ops : Array Oper} {rest : List Oper} {o : Oper} {a : Act} {w : World} {Q : Exit → Act → World → Prop} (hgd : o.guard = none) (s x : Operand)
    (ho : o.op = .call { callee := .builtin .append, args := #[s, x], argTypes := #[33, 33] })
    (base : Nat) (v : Value) (L : List Iv) (q : Iv) (b c : Nat) (hs : a.eval s = v) (hx : a.eval x = .slice (some ⟨b, 0, none⟩) 1 c) (hown : w.ownsRow base 32 2 v L.length (cellsI L))
    (hb : Blk w b 32 #[.int .i64 (q.l : Int), .int .i64 (q.r : Int)]) (hlen : L.length ≤ 100000) (hbase : base ≤ w.heap.size)
    (h : ∀ v' w', w'.ownsRow base 32 2 v' (L ++ [q]).length (cellsI (L ++ [q])) → w.grownBy w' v.ownBlock → wpList Tryd.prog ops Q rest (a.put o.dst v') w') : wpList Tryd.prog ops Q (o :: rest) a w := by
  obtain ⟨i0, hi, hz0, hz1, hz2⟩ := info_parts pairInfo
  refine wpList_append_own_at _ hgd s x 33 ho base 32 i0 (.agg #[.int .i64 0, .int .i64 0]) 2 16 Tryd.underlying33 hi hz0 hz1 hz2 rfl (by decide) v L.length (cellsI L) hs hown ⟨b, 0, none⟩ 1 c (encI q) hx rfl
    (fun j u hu => by rw [add_zero_off, hb.cell, List.getElem?_toArray]; exact hu) (by simp [encI, Value.oneCell']) (by unfold maxLen; omega) (by omega) hbase ?_
  intro v' w' h1 h2 _ _
  refine h v' w' ?_ h2
  rw [cellsI_snoc, List.length_append]; exact h1
set_option maxRecDepth 100000 in
set_option maxHeartbeats 1000000 in
theorem intervalsB_any (p : Nat) (hp : p < 18446744073709551616) (w : World) :
    Calls Tryd.prog 43 #[.agg (rowV p)] w fun e w' => ∃ v, e = .returned v ∧ SlI w' v (ivs p) ∧ (∀ b, v.ownBlock = some b → w.heap.size ≤ b ∧ b < w'.heap.size) ∧ Below w.heap.size w w' := by
  go_enter Tryd.func43, Tryd.ntmps43
  go_wp2
  generalize hW : World.alloc _ _ = W0
  have b0 : Blk W0 w.heap.size 52 (rowV p) := by rw [← hW]; exact Blk.new _ _ _
  have bb : Below w.heap.size w W0 := by rw [← hW]; exact (Below.refl _ _).alloc (Nat.le_refl _) _
  have hW0 : w.heap.size + 1 ≤ W0.heap.size := by rw [← hW]; simp
  clear hW
  obtain ⟨B, hB⟩ : ∃ B, B = w.heap.size := ⟨_, rfl⟩
  rw [← hB] at b0 bb hW0 ⊢
  have HBB := Lib.hid hB
  have B0 := Lib.hid b0
  clear hB b0
  go_loopw [3, 4, 5] (fun out i _ wr => ∃ k : Nat, k ≤ 65 ∧ i = .int .i64 (k : Int) ∧ Hid (wr.ownsRow (B + 1) 32 2 out (ivsTo p k).length (cellsI (ivsTo p k))) ∧ Below (B + 1) W0 wr ∧ Hid (0 < k → p.testBit (k - 1) = false)) (fun _ i _ _ => 65 - (intOf i).toNat)
  case atStart => exact ⟨0, by omega, rfl, Lib.hid (World.ownsRow_nil _ _ _ _), Below.refl _ _, Lib.hid (fun h => absurd h (by omega))⟩
  case round =>
    obtain ⟨k, hk, rfl, ho, hb, hz⟩ := hrel
    have hbk := B0.out.below hb (Nat.lt_succ_self B)
    have HBK := Lib.hid hbk
    clear hbk
    by_cases hlt : k < 64
    · have i0 : (0 : Int) ≤ (k : Int) := by omega
      have i1 : (k : Int) < 64 := by omega
      have ck : wr.cell? ⟨B, k, none⟩ = some (.bool (p.testBit k)) := by rw [HBK.out.cell, rowV_at p k hlt]
      have hst : starts p k = p.testBit k := by
        unfold starts
        rcases Nat.eq_zero_or_pos k with h | h
        · simp [h]
        · simp [hz.out h]
      obtain ⟨f, hf⟩ : ∃ f, f = p.testBit k := ⟨_, rfl⟩
      rw [← hf] at ck hst
      have HST := Lib.hid hst
      have HF := Lib.hid hf
      clear hst hf
      cases hff : f
      · have hnx : ivsTo p (k + 1) = ivsTo p k := by
          rw [ivsTo_succ, ivAt_none (by rw [HST.out, hff])]; simp
        have hno : p.testBit k = false := by rw [← HF.out, hff]
        rw [hff] at ck
        have ho' := ho.out
        rw [← hnx] at ho'
        have HO := Lib.hid ho'
        have HNO := Lib.hid hno
        clear hff ho' hnx hno
        go_wp2
        go_roundw
        case rel => exact ⟨k + 1, by omega, by go_num, HO, hb, Lib.hid (fun _ => HNO.out)⟩
        case measure => simp [intOf]; omega
      · have hs : starts p k = true := by rw [HST.out, hff]
        have hpk : p.testBit k = true := by rw [← HF.out, hff]
        have HS := Lib.hid hs
        have HPK := Lib.hid hpk
        rw [hff] at ck
        clear hs hpk hff
        go_wp2
        go_loopw [5] (fun r wr' => ∃ j : Nat, k ≤ j ∧ j ≤ 64 ∧ r = .int .i64 (j : Int) ∧ wr' = wr ∧ Hid (∀ i, k ≤ i → i < j → p.testBit i = true)) (fun r _ => 64 - (intOf r).toNat)
        case atStart => exact ⟨k, by omega, by omega, rfl, rfl, Lib.hid (fun i h1 h2 => by omega)⟩
        case round =>
          obtain ⟨j, hj1, hj2, rfl, rfl, hbits⟩ := hrel
          have j0 : (0 : Int) ≤ (j : Int) := by omega
          have done : (j = 64 ∨ p.testBit j = false) → ∃ q : Iv, q.l = k ∧ q.r = j ∧ ivsTo p (j + 1) = ivsTo p k ++ [q] ∧ (0 < j + 1 → p.testBit (j + 1 - 1) = false) := fun h => by
            have hjb : p.testBit j = false := by
              rcases h with h | h
              · rw [h]; exact Nat.testBit_lt_two_pow hp
              · exact h
            have he := endOf_unique hp hj1 hj2 hbits.out hjb
            have h1 := ivsTo_end (p := p) (l := k) hlt HS.out
            refine ⟨⟨k, endOf p k, starts_lt hlt HS.out, endOf_le p (Nat.le_of_lt hlt)⟩, rfl, he, ?_, fun _ => hjb⟩
            rw [← h1, he]
            refine ivsTo_skip (Nat.le_succ j) (fun i h2 h3 => ?_)
            obtain rfl : i = j := by omega
            exact ivAt_none (by simp [starts, hjb])
          have DONE := Lib.hid done
          clear done
          by_cases hj : j < 64
          · have cj : wr.cell? ⟨B, j, none⟩ = some (.bool (p.testBit j)) := by rw [HBK.out.cell, rowV_at p j hj]
            have j1 : (j : Int) < 64 := by omega
            obtain ⟨g, hg⟩ : ∃ g, g = p.testBit j := ⟨_, rfl⟩
            rw [← hg] at cj
            have HG := Lib.hid hg
            clear hg
            cases hgg : g
            · rw [hgg] at cj
              have hno : p.testBit j = false := by rw [← HG.out, hgg]
              have HNO := Lib.hid hno
              clear hno hgg ck
              obtain ⟨q, q1, q2, q3, q4⟩ := DONE.out (.inr HNO.out)
              have Q3 := Lib.hid q3
              have Q4 := Lib.hid q4
              clear q3 q4
              have hlen : (ivsTo p k).length ≤ 100000 := Nat.le_trans (ivsTo_len p k) (by omega)
              have HLEN := Lib.hid hlen
              clear hlen
              have hsz := hb.size
              go_wp2_with (refine wpList_append_pair rfl (.tmp 24) (.tmp 28) rfl (B + 1) u3 (ivsTo p k) q wr.heap.size _ rfl rfl (ho.out.alloc _) (by rw [q1, q2]; exact Blk.new _ _ _) HLEN.out (by simp; omega) ?_)
              intro v' w2 ho2 hg2
              have hb2 : Below (B + 1) W0 w2 := own_below (hb.alloc (by omega) _) (ho.out.alloc _) (by simp; omega) hg2
              have e : (ivsTo p (j + 1)).length = (ivsTo p k).length + 1 := by rw [Q3.out]; simp
              rw [← Q3.out, ← e] at ho2
              have HO2 := Lib.hid ho2
              have HB2 := Lib.hid hb2
              clear ho2 hg2 e hb2 q1 q2
              go_wp2
              go_roundw
              case rel => exact ⟨j + 1, by omega, by go_num, HO2, HB2.out, Q4⟩
              case measure => simp [intOf]; omega
            · rw [hgg] at cj
              have hyes : p.testBit j = true := by rw [← HG.out, hgg]
              have hbits' : ∀ i, k ≤ i → i < j + 1 → p.testBit i = true := fun i h1 h2 => by
                by_cases h : i = j
                · rw [h]; exact hyes
                · exact hbits.out i h1 (by omega)
              have HBT := Lib.hid hbits'
              clear hyes hbits' hgg ck
              go_wp2
              go_roundw
              case rel => exact ⟨j + 1, by omega, by omega, by go_num, trivial, HBT⟩
              case measure => simp [intOf]; omega
          · have hj64 : j = 64 := by omega
            have DJ := Lib.hid hj64
            have j1 : ¬ (j : Int) < 64 := by omega
            clear hj64 ck
            obtain ⟨q, q1, q2, q3, q4⟩ := DONE.out (.inl DJ.out)
            have Q3 := Lib.hid q3
            have Q4 := Lib.hid q4
            clear q3 q4
            have hlen : (ivsTo p k).length ≤ 100000 := Nat.le_trans (ivsTo_len p k) (by omega)
            have HLEN := Lib.hid hlen
            clear hlen
            have hsz := hb.size
            go_wp2_with (refine wpList_append_pair rfl (.tmp 24) (.tmp 28) rfl (B + 1) u3 (ivsTo p k) q wr.heap.size _ rfl rfl (ho.out.alloc _) (by rw [q1, q2]; exact Blk.new _ _ _) HLEN.out (by simp; omega) ?_)
            intro v' w2 ho2 hg2
            have hb2 : Below (B + 1) W0 w2 := own_below (hb.alloc (by omega) _) (ho.out.alloc _) (by simp; omega) hg2
            have e : (ivsTo p (j + 1)).length = (ivsTo p k).length + 1 := by rw [Q3.out]; simp
            rw [← Q3.out, ← e] at ho2
            have HO2 := Lib.hid ho2
            have HB2 := Lib.hid hb2
            clear ho2 hg2 e hb2 q1 q2
            go_wp2
            go_roundw
            case rel => exact ⟨j + 1, by omega, by go_num, HO2, HB2.out, Q4⟩
            case measure => simp [intOf]; omega
    · have hfin : SlI wr u3 (ivs p) := by
        have e : ivsTo p k = ivs p := by
          unfold ivs
          refine ivsTo_skip (by omega) (fun i h1 h2 => ?_)
          unfold ivAt
          rw [dif_neg (by omega)]
        have := Sl.of_own ho.out
        rwa [e] at this
      have HFIN := Lib.hid hfin
      clear hfin
      go_wp2
      go_ret
      exact ⟨_, rfl, HFIN.out, fun b e => ⟨by have := (ho.out.lt b e).1; rw [← HBB.out]; omega, (ho.out.lt b e).2⟩, by rw [← HBB.out]; exact bb.trans (hb.mono (Nat.le_succ _))⟩
theorem SlI.form {w : World} {v : Value} {l : List Iv} (h : SlI w v l) : ∃ A cap, v = .slice A l.length cap ∧ l.length ≤ cap ∧ cap ≤ maxLen ∧ (∀ k, k < l.length → ∃ b off, A = some ⟨b, off, none⟩ ∧ b < w.heap.size ∧
    (∀ i (hi : i < l.length), w.cell? ⟨b, off + i * 2, none⟩ = some (.int .i64 (l[i].l : Int)) ∧ w.cell? ⟨b, off + i * 2 + 1, none⟩ = some (.int .i64 (l[i].r : Int)))) := by
  obtain ⟨h1, A, cap, h2, h3, h4, h5⟩ := h
  have get : ∀ (l : List Iv) (k j : Nat) (hk : k < l.length), j < 2 → (cellsI l)[k * 2 + j]? = (encI l[k])[j]? := by
    intro l
    induction l with
    | nil => intro k j hk; simp at hk
    | cons q l ih =>
      intro k j hk hj
      have hc : cellsI (q :: l) = encI q ++ cellsI l := rfl
      cases k with
      | zero => rw [hc, List.getElem?_append_left (by simp [encI]; omega), Nat.zero_mul, Nat.zero_add]; rfl
      | succ k =>
        rw [hc, List.getElem?_append_right (by simp [encI]; omega), show (k + 1) * 2 + j - (encI q).length = k * 2 + j by simp [encI]; omega]
        exact ih k j (by simpa using hk) hj
  refine ⟨A, cap, h2, h3, h4, fun k hk => ?_⟩
  obtain ⟨b, off, e, hb, hc⟩ := h5 (by omega)
  refine ⟨b, off, e, hb, fun i hi => ?_⟩
  have g := fun j (hj : j < 2) u (hu : (encI l[i])[j]? = some u) => hc (i * 2 + j) u ((get l i j hi hj).trans hu)
  exact ⟨g 0 (by omega) _ rfl, by have := g 1 (by omega) _ rfl; rwa [← Nat.add_assoc] at this⟩
theorem SlI.below {w w' : World} {v : Value} {l : List Iv} (h : SlI w v l) (hb : Below w.heap.size w w') : SlI w' v l := Sl.below h hb
theorem intInfo : ∃ i, Tryd.prog.info? 3 = some i ∧ Tryd.prog.cellsOf 3 = 1 := by
  cases h : Tryd.prog.info? 3 with
  | none =>
    have : (Tryd.prog.info? 3).isSome = true := by kernel_rfl
    rw [h] at this; cases this
  | some i => exact ⟨i, rfl, by kernel_rfl⟩
theorem pair_eq (a b c d : Int) (w : World) : (binOp .eql 32 (.agg #[.int .i64 a, .int .i64 b]) (.agg #[.int .i64 c, .int .i64 d])).run Tryd.prog w = .ok (.bool (decide (a = c) && decide (b = d))) w := by
  obtain ⟨i, hi, hc⟩ := intInfo
  have h3 := Tryd.underlying3
  rw [run_eql_struct, run_equalIn_array w 9999 _ _ Tryd.underlying32 hi, hc]
  simp [List.range_succ, Op.eqItems, go_sem, h3]
  by_cases e1 : a = c <;> by_cases e2 : b = d <;> simp [*]
theorem pair_eq' (x q : Iv) (w : World) : (binOp .eql 32 (.agg #[.int .i64 (x.l : Int), .int .i64 (x.r : Int)]) (.agg #[.int .i64 (q.l : Int), .int .i64 (q.r : Int)])).run Tryd.prog w = .ok (.bool (decide (x.l = q.l ∧ x.r = q.r))) w := by
  rw [pair_eq]
  by_cases h1 : x.l = q.l <;> by_cases h2 : x.r = q.r <;> simp [h1, h2] <;> omega
def memI (q : Iv) (l : List Iv) : Bool := l.any fun x => decide (x.l = q.l ∧ x.r = q.r)
set_option maxRecDepth 100000 in
set_option maxHeartbeats 1000000 in
theorem hasB_any (l : List Iv) (v : Value) (q : Iv) (w : World) (h : SlI w v l) :
    Calls Tryd.prog 44 #[v, .agg #[.int .i64 (q.l : Int), .int .i64 (q.r : Int)]] w fun e w' => e = .returned (.bool (memI q l)) ∧ Below w.heap.size w w' := by
  obtain ⟨A, c, rfl, _, hcm, hf⟩ := h.form
  have hal : l.length ≤ 9223372036854775807 := by unfold maxLen at hcm; omega
  obtain ⟨n, hn⟩ : ∃ n, n = l.length := ⟨_, rfl⟩
  have hf' : ∀ k (hk : k < n), ∃ b off, A = some ⟨b, off, none⟩ ∧ b < w.heap.size ∧ w.cell? ⟨b, off + k * 2, none⟩ = some (.int .i64 ((l[k]'(by omega)).l : Int)) ∧ w.cell? ⟨b, off + k * 2 + 1, none⟩ = some (.int .i64 ((l[k]'(by omega)).r : Int)) := fun k hk => by
    obtain ⟨b, off, e, h1, h2⟩ := hf k (by omega)
    obtain ⟨h3, h4⟩ := h2 k (by omega)
    exact ⟨b, off, e, h1, h3, h4⟩
  rw [← hn] at hal ⊢
  have HN := Lib.hid hn
  have HF := Lib.hid hf'
  clear hf hf' h hcm
  go_enter Tryd.func44, Tryd.ntmps44
  go_wp2
  go_loopw [5] (fun i wr => ∃ k : Nat, k ≤ n ∧ i = .int .i64 (k : Int) ∧ (∃ m, wr = (w.alloc (.cells #[.int .i64 (q.l : Int), .int .i64 (q.r : Int)] 32)).drewN m) ∧ Hid (∀ j (hj : j < l.length), j < k → ¬ (l[j].l = q.l ∧ l[j].r = q.r))) (fun i _ => n - (intOf i).toNat)
  case atStart => exact ⟨0, by omega, rfl, ⟨0, rfl⟩, Lib.hid (fun j hj h => by omega)⟩
  case round =>
    obtain ⟨k, hk, rfl, ⟨m, rfl⟩, hno⟩ := hrel
    by_cases hlt : k < n
    · obtain ⟨b, o, rfl, hbl, p1, p2⟩ := HF.out k hlt
      obtain ⟨x, hx⟩ : ∃ x, x = l[k]'(by omega) := ⟨_, rfl⟩
      rw [← hx] at p1 p2
      have i0 : (0 : Int) ≤ (k : Int) := by omega
      have i1 : (k : Int) < (n : Int) := by omega
      have he := fun W => pair_eq' x q W
      obtain ⟨f, hf⟩ : ∃ f, f = decide (x.l = q.l ∧ x.r = q.r) := ⟨_, rfl⟩
      rw [← hf] at he
      have HX := Lib.hid hx
      have HFF := Lib.hid hf
      clear hx hf
      have c1 : ∀ m, ((w.alloc (.cells #[.int .i64 (q.l : Int), .int .i64 (q.r : Int)] 32)).drewN m).cell? ⟨b, o + k * 2, none⟩ = some (.int .i64 (x.l : Int)) := fun m => (World.cell?_alloc_lt w _ _ hbl).trans p1
      have c2 : ∀ m, ((w.alloc (.cells #[.int .i64 (q.l : Int), .int .i64 (q.r : Int)] 32)).drewN m).cell? ⟨b, o + k * 2 + 1, none⟩ = some (.int .i64 (x.r : Int)) := fun m => (World.cell?_alloc_lt w _ _ hbl).trans p2
      have c3 : ∀ m, ((w.alloc (.cells #[.int .i64 (q.l : Int), .int .i64 (q.r : Int)] 32)).drewN m).cell? ⟨w.heap.size, 0, none⟩ = some (.int .i64 (q.l : Int)) := fun m => (Blk.new w _ _).cell 0
      have c4 : ∀ m, ((w.alloc (.cells #[.int .i64 (q.l : Int), .int .i64 (q.r : Int)] 32)).drewN m).cell? ⟨w.heap.size, 1, none⟩ = some (.int .i64 (q.r : Int)) := fun m => (Blk.new w _ _).cell 1
      have hbw : ∀ m, Below w.heap.size w ((w.alloc (.cells #[.int .i64 (q.l : Int), .int .i64 (q.r : Int)] 32)).drewN m) := fun m => below_drewN ((Below.refl _ _).alloc (Nat.le_refl _) _) m
      have HBW := Lib.hid hbw
      clear p1 p2 hbl hbw
      generalize (w.alloc (.cells #[.int .i64 (q.l : Int), .int .i64 (q.r : Int)] 32)) = W at *
      cases hff : f
      · rw [hff] at he
        have hno' : ∀ j (hj : j < l.length), j < k + 1 → ¬ (l[j].l = q.l ∧ l[j].r = q.r) := fun j hj h => by
          by_cases e : j = k
          · subst e
            have := HFF.out
            rw [hff, HX.out] at this
            exact of_decide_eq_false this.symm
          · exact hno.out j hj (by omega)
        have HNO := Lib.hid hno'
        clear hno' hff
        go_wp2
        go_quiet (fail)
        go_wp2
        go_roundw
        case rel => exact ⟨k + 1, by omega, by go_num, ⟨m + nq, by first | rfl | rw [World.drewN_drewN]⟩, HNO⟩
        case measure => simp [intOf]; omega
      · rw [hff] at he
        have hyes : memI q l = true := by
          unfold memI
          rw [List.any_eq_true]
          refine ⟨x, by rw [HX.out]; exact List.getElem_mem _, by rw [← HFF.out, hff]⟩
        have HY := Lib.hid hyes
        clear hyes hff
        go_wp2
        go_quiet (fail)
        go_wp2
        go_ret
        exact ⟨by rw [HY.out]; rfl, by first | exact HBW.out _ | (rw [World.drewN_drewN]; exact HBW.out _)⟩
    · obtain rfl : k = n := by omega
      have hno' : memI q l = false := by
        unfold memI
        rw [List.any_eq_false]
        intro x hx
        obtain ⟨j, hj, rfl⟩ := List.getElem_of_mem hx
        have := hno.out j hj (by rw [HN.out]; exact hj)
        simpa using this
      have HNO := Lib.hid hno'
      clear hno'
      go_wp2
      go_ret
      exact ⟨by rw [HNO.out]; rfl, below_drewN ((Below.refl _ _).alloc (Nat.le_refl _) _) _⟩
end Go.Proofs.YtplamgmmncenjaaDoorR
