/- Walks of the reference: List. -/
import Derived.Test.YtplamgmmncenjaaDoorRW12
namespace Go.Proofs.YtplamgmmncenjaaDoorR
open Go.RowKit Go.Shelf
theorem add_zero_off (b j : Nat) : (⟨b, 0, none⟩ : Addr).add j = ⟨b, j, none⟩ := by unfold Addr.add; split <;> simp_all
theorem own_below {base : Nat} {e : TypeId} {sz n : Nat} {v : Value} {xs : List Value} {a w w' : World} (hb : Below base a w) (h : w.ownsRow base e sz v n xs) (hs : base ≤ w.heap.size) (hg : w.grownBy w' v.ownBlock) : Below base a w' :=
  hb.grown hg hs fun r e => (h.lt r e).1
theorem wpList_append_rect {ops : Array Oper} {rest : List Oper} {o : Oper} {a : Act} {w : World} {Q : Exit → Act → World → Prop} (hgd : o.guard = none) (s x : Operand)
    (ho : o.op = .call { callee := .builtin .append, args := #[s, x], argTypes := #[24, 24] })
    (base : Nat) (v : Value) (L : List Rct) (q : Rct) (b c : Nat) (hs : a.eval s = v) (hx : a.eval x = .slice (some ⟨b, 0, none⟩) 1 c) (hown : w.ownsRow base 36 4 v L.length (cellsR L))
    (hb : Blk w b 36 #[.int .i64 q.l, .int .i64 q.r, .int .i64 q.lo, .int .i64 q.hi]) (hlen : L.length ≤ 100000) (hbase : base ≤ w.heap.size)
    (h : ∀ v' w', w'.ownsRow base 36 4 v' (L ++ [q]).length (cellsR (L ++ [q])) → w.grownBy w' v.ownBlock → wpList Tryd.prog ops Q rest (a.put o.dst v') w') : wpList Tryd.prog ops Q (o :: rest) a w := by
  obtain ⟨i0, hi, hz0, hz1, hz2⟩ := info_parts rectInfo
  refine wpList_append_own_at _ hgd s x 24 ho base 36 i0 (.agg #[.int .i64 0, .int .i64 0, .int .i64 0, .int .i64 0]) 4 32 Tryd.underlying24 hi hz0 hz1 hz2 rfl (by decide) v L.length (cellsR L) hs hown ⟨b, 0, none⟩ 1 c (encR q) hx rfl
    (fun j u hu => by rw [add_zero_off, hb.cell, List.getElem?_toArray]; exact hu) (by simp [encR, Value.oneCell']) (by unfold maxLen; omega) (by omega) hbase ?_
  intro v' w' h1 h2 _ _
  refine h v' w' ?_ h2
  rw [cellsR_snoc, List.length_append]; exact h1
def q4 (q : Rct) : Q4 := ⟨q.l, q.r, q.lo, q.hi⟩
def xok (x : List Rct) : Prop := ∀ k, k < x.length → (q4 (x.getD k default)).ok
def onesL (x : List Rct) (k : Nat) : List Rct := (x.take k).map fun q => oneQ (q4 q)
theorem onesL_succ (x : List Rct) (k : Nat) (h : k < x.length) : onesL x (k + 1) = onesL x k ++ [oneQ (q4 (x.getD k default))] := by
  unfold onesL; rw [take_snocR x k h]; simp
theorem onesL_len (x : List Rct) (k : Nat) (h : k ≤ x.length) : (onesL x k).length = k := by simp [onesL, Nat.min_eq_left h]
def listL (x : List Rct) : List Rct := onesL x (min x.length 12)
set_option maxRecDepth 100000 in
set_option maxHeartbeats 1000000 in
theorem list_any (x : List Rct) (v : Value) (w : World) (h : SlR w v x) (hx : xok x) :
    Calls Tryd.prog 20 #[v] w fun e w' => ∃ v, e = .returned v ∧ SlR w' v (listL x) ∧ Below w.heap.size w w' := by
  obtain ⟨A, c, rfl, _, hcm, hf⟩ := h.form
  have hal : x.length ≤ 9223372036854775807 := by unfold maxLen at hcm; omega
  obtain ⟨n, hn⟩ : ∃ n, n = x.length := ⟨_, rfl⟩
  rw [← hn] at hf hal ⊢
  have HN := Lib.hid hn
  have HF := Lib.hid hf
  have HX := Lib.hid hx
  clear hn hf h hcm hx
  go_enter Tryd.func20, Tryd.ntmps20
  go_wp2
  go_loopw [3, 4] (fun out i wr => ∃ k : Nat, k ≤ n ∧ k ≤ 12 ∧ i = .int .i64 (k : Int) ∧ Hid (wr.ownsRow w.heap.size 36 4 out (onesL x k).length (cellsR (onesL x k))) ∧ Below w.heap.size w wr) (fun _ i _ => n - (intOf i).toNat)
  case atStart => exact ⟨0, by omega, by omega, rfl, Lib.hid (World.ownsRow_nil _ _ _ _), Below.refl _ _⟩
  case round =>
    obtain ⟨k, hk, hk12, rfl, ho, hb⟩ := hrel
    have fin : k = min n 12 → SlR wr u3 (listL x) := fun e => by
      unfold listL; rw [← HN.out, ← e]; exact Sl.of_own ho.out
    have FIN := Lib.hid fin
    clear fin
    by_cases hlt : k < n
    · by_cases hl2 : (k : Int) < 12
      · obtain ⟨b, o, rfl, hbl, g⟩ := HF.out k hlt
        obtain ⟨p1, p2, p3, p4⟩ := g k hlt
        obtain ⟨q, hq⟩ : ∃ q, q = x.getD k default := ⟨_, rfl⟩
        rw [← hq] at p1 p2 p3 p4
        rw [← hb.cell (p := ⟨b, _, none⟩) hbl] at p1 p2 p3 p4
        have i0 : (0 : Int) ≤ (k : Int) := by omega
        have i1 : (k : Int) < (n : Int) := by omega
        have hkl : k < x.length := by rw [← HN.out]; exact hlt
        have hqo := HX.out k hkl
        rw [← hq] at hqo
        have hnx := onesL_succ x k hkl
        rw [← hq] at hnx
        have HNX := Lib.hid hnx
        have HQO := Lib.hid hqo
        have hll := onesL_len x k (by omega)
        have HLL := Lib.hid hll
        have hsz := hb.size
        clear g hq hkl hqo hnx hll
        go_wp2_with (fail)
        refine (one_any (q4 q) HQO.out wr).mono ?_
        rintro e w1 ⟨rfl, hb1⟩
        have hbb := hb.trans (hb1.mono hsz)
        have ho1 := ho.out.kept (gb_below (hb1.mono (Nat.le_refl _)) none) (by cases hv : u3.ownBlock <;> simp)
        have HBB := Lib.hid hbb
        have HO1 := Lib.hid ho1
        clear hbb ho1 ho hb hb1
        obtain ⟨r, hr⟩ : ∃ r, r = oneQ (q4 q) := ⟨_, rfl⟩
        rw [← hr] at HNX ⊢
        clear hr
        go_wp2_with (refine wpList_append_rect rfl (.tmp 15) (.tmp 21) rfl w.heap.size u3 (onesL x k) r w1.heap.size _ rfl rfl (HO1.out.alloc _) (Blk.new _ _ _) (by rw [HLL.out]; omega) (Nat.le_trans HBB.out.size (by simp)) ?_)
        intro v' w2 ho2 hg2
        have hb2 : Below w.heap.size w w2 := own_below (HBB.out.alloc HBB.out.size _) (HO1.out.alloc _) (Nat.le_trans HBB.out.size (by simp)) hg2
        have e : (onesL x (k + 1)).length = (onesL x k).length + 1 := by rw [HNX.out]; simp
        rw [← HNX.out, ← e] at ho2
        clear e
        have HO2 := Lib.hid ho2
        clear ho2 hg2
        go_wp2
        go_roundw
        case rel => exact ⟨k + 1, by omega, by omega, by go_num, HO2, hb2⟩
        case measure => simp [intOf]; omega
      · have hk12' : k = 12 := by omega
        have hfin := FIN.out (by omega)
        go_wp2
        go_ret
        exact ⟨_, rfl, hfin, hb⟩
    · have hkn : k = n := by omega
      have hfin := FIN.out (by omega)
      subst hkn
      go_wp2
      go_ret
      exact ⟨_, rfl, hfin, hb⟩
end Go.Proofs.YtplamgmmncenjaaDoorR
