/- Plain: classes of sets closed under the operations; areas of such sets. No program stands here. -/
import Derived.Test.YtplamgmmncenjaaDoorRP4
namespace Go.Proofs.YtplamgmmncenjaaDoorR
open Go
theorem ge64_bit {p x : Nat} (hp : p < 18446744073709551616) (h : 64 ≤ x) : p.testBit x = false := by
  cases hb : p.testBit x
  · rfl
  · have := bit_lt hp hb; omega
theorem starts_iff (p x : Nat) : starts p x = true ↔ p.testBit x = true ∧ (x = 0 ∨ p.testBit (x - 1) = false) := by
  simp [starts]
theorem ends_iff (p x : Nat) : endsAt p x = true ↔ 0 < x ∧ p.testBit (x - 1) = true ∧ p.testBit x = false := by
  simp [endsAt, and_assoc]
theorem minusN_bit {x y : Nat} (hx : x < 18446744073709551616) (hy : y < 18446744073709551616) (i : Nat) : (minusN x y).testBit i = (x.testBit i && !y.testBit i) := by
  unfold minusN
  rw [Nat.testBit_and]
  by_cases h : i < 64
  · have := compl_bit (b := y) h
    rw [Nat.mod_eq_of_lt hy] at this
    rw [this]
  · rw [ge64_bit hx (by omega)]; rfl
theorem combG_ok_or {g h : Grd} (hg : g.ok) (hh : h.ok) : (combG orN g h).ok := fun i => or_lt (hg i) (hh i)
theorem combG_ok_and {g h : Grd} (hg : g.ok) : (combG andN g h).ok := fun i => and_lt (hg i)
theorem combG_ok_minus {g h : Grd} (hg : g.ok) : (combG minusN g h).ok := fun i => and_lt (hg i)
theorem few_ch {op : Nat → Nat → Nat} (h0 : op 0 0 = 0) {L R Y : List Nat} {g h : Grd} (hg : Few L R Y g) (hh : Few L R Y h) (y : Nat) (hy : y < 64) (hn : y ∉ Y) : combG op g h y = if y = 0 then 0 else combG op g h (y - 1) := by
  have h1 := hg.ch y hy hn
  have h2 := hh.ch y hy hn
  unfold combG
  by_cases e : y = 0
  · rw [if_pos e] at *; rw [h1, h2, h0]
  · rw [if_neg e] at *; rw [h1, h2]
theorem Few.or {L R Y : List Nat} {g h : Grd} (hg : Few L R Y g) (hh : Few L R Y h) : Few L R Y (combG orN g h) := by
  refine ⟨combG_ok_or hg.ok hh.ok, fun y x hy hs => ?_, fun y x hy hs => ?_, fun y hy hn => few_ch rfl hg hh y hy hn⟩
  · rw [starts_iff] at hs
    simp only [combG, orN, Nat.testBit_or, Bool.or_eq_true, Bool.or_eq_false_iff] at hs
    rcases hs.1 with h1 | h1
    · exact hg.st y x hy ((starts_iff _ _).2 ⟨h1, hs.2.imp id And.left⟩)
    · exact hh.st y x hy ((starts_iff _ _).2 ⟨h1, hs.2.imp id And.right⟩)
  · rw [ends_iff] at hs
    simp only [combG, orN, Nat.testBit_or, Bool.or_eq_true, Bool.or_eq_false_iff] at hs
    rcases hs.2.1 with h1 | h1
    · exact hg.en y x hy ((ends_iff _ _).2 ⟨hs.1, h1, hs.2.2.1⟩)
    · exact hh.en y x hy ((ends_iff _ _).2 ⟨hs.1, h1, hs.2.2.2⟩)
theorem Few.and {L R Y : List Nat} {g h : Grd} (hg : Few L R Y g) (hh : Few L R Y h) : Few L R Y (combG andN g h) := by
  refine ⟨combG_ok_and hg.ok, fun y x hy hs => ?_, fun y x hy hs => ?_, fun y hy hn => few_ch rfl hg hh y hy hn⟩
  · rw [starts_iff] at hs
    simp only [combG, andN, Nat.testBit_and, Bool.and_eq_true, Bool.and_eq_false_iff] at hs
    rcases hs.2 with h1 | h1 | h1
    · exact hg.st y x hy ((starts_iff _ _).2 ⟨hs.1.1, .inl h1⟩)
    · exact hg.st y x hy ((starts_iff _ _).2 ⟨hs.1.1, .inr h1⟩)
    · exact hh.st y x hy ((starts_iff _ _).2 ⟨hs.1.2, .inr h1⟩)
  · rw [ends_iff] at hs
    simp only [combG, andN, Nat.testBit_and, Bool.and_eq_true, Bool.and_eq_false_iff] at hs
    rcases hs.2.2 with h1 | h1
    · exact hg.en y x hy ((ends_iff _ _).2 ⟨hs.1, hs.2.1.1, h1⟩)
    · exact hh.en y x hy ((ends_iff _ _).2 ⟨hs.1, hs.2.1.2, h1⟩)
theorem Few.minus {X Y : List Nat} {g h : Grd} (hg : Few X X Y g) (hh : Few X X Y h) : Few X X Y (combG minusN g h) := by
  have hb : ∀ y x, (combG minusN g h y).testBit x = ((g y).testBit x && !(h y).testBit x) := fun y x => minusN_bit (hg.ok y) (hh.ok y) x
  refine ⟨combG_ok_minus hg.ok, fun y x hy hs => ?_, fun y x hy hs => ?_, fun y hy hn => few_ch rfl hg hh y hy hn⟩
  · rw [starts_iff, hb, hb] at hs
    simp only [Bool.and_eq_true, Bool.and_eq_false_iff, Bool.not_eq_true', Bool.not_eq_false'] at hs
    rcases hs.2 with h1 | h1 | h1
    · exact hg.st y x hy ((starts_iff _ _).2 ⟨hs.1.1, .inl h1⟩)
    · exact hg.st y x hy ((starts_iff _ _).2 ⟨hs.1.1, .inr h1⟩)
    · by_cases h0 : x = 0
      · exact hg.st y x hy ((starts_iff _ _).2 ⟨hs.1.1, .inl h0⟩)
      · exact hh.en y x hy ((ends_iff _ _).2 ⟨by omega, h1, hs.1.2⟩)
  · rw [ends_iff, hb, hb] at hs
    simp only [Bool.and_eq_true, Bool.and_eq_false_iff, Bool.not_eq_true', Bool.not_eq_false'] at hs
    rcases hs.2.2 with h1 | h1
    · exact hg.en y x hy ((ends_iff _ _).2 ⟨hs.1, hs.2.1.1, h1⟩)
    · exact hh.st y x hy ((starts_iff _ _).2 ⟨h1, .inr hs.2.1.2⟩)
theorem Few.mono {L R Y L' R' Y' : List Nat} {g : Grd} (h : Few L R Y g) (hL : ∀ x ∈ L, x ∈ L') (hR : ∀ x ∈ R, x ∈ R') (hY : ∀ x ∈ Y, x ∈ Y') : Few L' R' Y' g :=
  ⟨h.ok, fun y x hy hs => hL x (h.st y x hy hs), fun y x hy hs => hR x (h.en y x hy hs), fun y hy hn => h.ch y hy (fun hh => hn (hY y hh))⟩
theorem Few.none (L R Y : List Nat) : Few L R Y g0 :=
  ⟨g0_ok, fun y x _ hs => by simp [g0, starts] at hs, fun y x _ hs => by simp [g0, endsAt] at hs, fun y _ _ => by simp [g0]⟩
/-- one rectangle -/
def oneG (q : Rct) : Grd := fillG g0 q
theorem oneG_bit {q : Rct} (hq : okR q = true) (y x : Nat) : (oneG q y).testBit x = inR x y q := by
  unfold oneG; rw [fillG_bit g0 hq]; simp [g0]
theorem oneG_ok {q : Rct} (hq : okR q = true) : (oneG q).ok := fillTo_ok g0_ok (okR_parts hq).2.2.1 _
theorem inR_iff (x y : Int) (q : Rct) : inR x y q = true ↔ q.l ≤ x ∧ x < q.r ∧ q.lo ≤ y ∧ y < q.hi := by simp [inR, and_assoc]
theorem inR_not (x y : Int) (q : Rct) : inR x y q = false ↔ ¬ (q.l ≤ x ∧ x < q.r ∧ q.lo ≤ y ∧ y < q.hi) := by rw [← inR_iff]; simp
theorem few_one {q : Rct} (hq : okR q = true) : Few [q.l.toNat] [q.r.toNat] [q.lo.toNat, q.hi.toNat] (oneG q) := by
  have := okR_parts hq
  refine ⟨oneG_ok hq, fun y x hy hs => ?_, fun y x hy hs => ?_, fun y hy hn => ?_⟩
  · rw [starts_iff, oneG_bit hq, oneG_bit hq, inR_iff, inR_not] at hs
    simp only [List.mem_singleton]; omega
  · rw [ends_iff, oneG_bit hq, oneG_bit hq, inR_iff, inR_not] at hs
    simp only [List.mem_singleton]; omega
  · simp only [List.mem_cons, List.not_mem_nil, or_false, not_or] at hn
    refine eq_of_bits (oneG_ok hq y) ?_ (fun x hx => ?_)
    · split
      · decide
      · exact oneG_ok hq (y - 1)
    · split
      · rw [oneG_bit hq, Bool.eq_iff_iff, inR_iff]; simp; omega
      · rw [oneG_bit hq, oneG_bit hq, Bool.eq_iff_iff, inR_iff, inR_iff]; omega
theorem fillG_or (g : Grd) (q : Rct) : fillG g q = combG orN g (oneG q) := by
  funext y
  unfold combG oneG fillG fillTo orN g0
  split <;> simp
theorem few_fill {L R Y : List Nat} {g : Grd} (h : Few L R Y g) {q : Rct} (hq : okR q = true) : Few (q.l.toNat :: L) (q.r.toNat :: R) (q.lo.toNat :: q.hi.toNat :: Y) (fillG g q) := by
  rw [fillG_or]
  exact (h.mono (by simp +contextual) (by simp +contextual) (by simp +contextual)).or ((few_one hq).mono (by simp) (by simp) (by simp))
theorem full_or (B : BG) {q : Rct} (hq : okR q = true) : toG (fullB B q true) = combG orN (toG B) (oneG q) := by
  funext y
  refine eq_of_bits (toG_ok _ y) (combG_ok_or (toG_ok B) (oneG_ok hq) y) (fun x hx => ?_)
  rw [toG_bit, combG, orN, Nat.testBit_or, toG_bit, oneG_bit hq, fullB, Bool.eq_iff_iff]
  simp only [dt hx, Bool.true_and]
  by_cases h : q.lo ≤ (y : Int) ∧ (y : Int) < q.hi ∧ q.l ≤ (x : Int) ∧ (x : Int) < q.r
  · rw [if_pos h]; simp [(inR_iff x y q).2 ⟨h.2.2.1, h.2.2.2, h.1, h.2.1⟩]
  · rw [if_neg h, (inR_not x y q).2 (fun hh => h ⟨hh.2.2.1, hh.2.2.2, hh.1, hh.2.1⟩)]; simp
theorem full_minus (B : BG) {q : Rct} (hq : okR q = true) : toG (fullB B q false) = combG minusN (toG B) (oneG q) := by
  funext y
  refine eq_of_bits (toG_ok _ y) (combG_ok_minus (toG_ok B) y) (fun x hx => ?_)
  rw [toG_bit, combG, minusN_bit (toG_ok B y) (oneG_ok hq y), toG_bit, oneG_bit hq, fullB, Bool.eq_iff_iff]
  simp only [dt hx, Bool.true_and]
  by_cases h : q.lo ≤ (y : Int) ∧ (y : Int) < q.hi ∧ q.l ≤ (x : Int) ∧ (x : Int) < q.r
  · rw [if_pos h]; simp [(inR_iff x y q).2 ⟨h.2.2.1, h.2.2.2, h.1, h.2.1⟩]
  · rw [if_neg h, (inR_not x y q).2 (fun hh => h ⟨hh.2.2.1, hh.2.2.2, hh.1, hh.2.1⟩)]; simp
/-- the k-th rectangle -/
def nthQ (x : List Rct) (k : Nat) : Rct := oneQ (q4 (x.getD k default))
def lsX (x : List Rct) (k : Nat) : List Nat := (List.range k).map fun i => (nthQ x i).l.toNat
def rsX (x : List Rct) (k : Nat) : List Nat := (List.range k).map fun i => (nthQ x i).r.toNat
def ysX (x : List Rct) (k : Nat) : List Nat := ((List.range k).map fun i => (nthQ x i).lo.toNat) ++ ((List.range k).map fun i => (nthQ x i).hi.toNat)
theorem lsX_len (x : List Rct) (k : Nat) : (lsX x k).length = k := by simp [lsX]
theorem rsX_len (x : List Rct) (k : Nat) : (rsX x k).length = k := by simp [rsX]
theorem ysX_len (x : List Rct) (k : Nat) : (ysX x k).length = 2 * k := by simp [ysX]; omega
theorem toG_none : toG (fun _ _ => false) = g0 := by
  funext y; exact eq_of_bits (toG_ok _ y) (g0_ok y) (fun x _ => by rw [toG_bit]; simp [g0])
theorem lsX_succ (x : List Rct) (k : Nat) : lsX x (k + 1) = lsX x k ++ [(nthQ x k).l.toNat] := by simp [lsX, List.range_succ]
theorem rsX_succ (x : List Rct) (k : Nat) : rsX x (k + 1) = rsX x k ++ [(nthQ x k).r.toNat] := by simp [rsX, List.range_succ]
theorem ysX_old (x : List Rct) (k j : Nat) (h : j ∈ ysX x k) : j ∈ ysX x (k + 1) := by
  simp only [ysX, List.mem_append, List.mem_map, List.mem_range] at *
  rcases h with ⟨i, h1, h2⟩ | ⟨i, h1, h2⟩
  · exact .inl ⟨i, by omega, h2⟩
  · exact .inr ⟨i, by omega, h2⟩
theorem ysX_new (x : List Rct) (k j : Nat) (h : j ∈ [(nthQ x k).lo.toNat, (nthQ x k).hi.toNat]) : j ∈ ysX x (k + 1) := by
  simp only [ysX, List.mem_append, List.mem_map, List.mem_range, List.mem_cons, List.not_mem_nil, or_false] at *
  rcases h with h | h
  · exact .inl ⟨k, by omega, h.symm⟩
  · exact .inr ⟨k, by omega, h.symm⟩
theorem few_made (x : List Rct) : ∀ k, Few (lsX x k ++ rsX x k) (lsX x k ++ rsX x k) (ysX x k) (toG (madeB x k))
  | 0 => by show Few _ _ _ (toG fun _ _ => false); rw [toG_none]; exact Few.none _ _ _
  | k + 1 => by
    have hq : okR (nthQ x k) = true := oneQ_ok _
    have hX : ∀ j ∈ lsX x k ++ rsX x k, j ∈ lsX x (k + 1) ++ rsX x (k + 1) := fun j hj => by
      rw [lsX_succ, rsX_succ]; simp only [List.mem_append] at *; rcases hj with h | h <;> simp [h]
    have h1 := (few_made x k).mono hX hX (ysX_old x k)
    have h2 : Few (lsX x (k + 1) ++ rsX x (k + 1)) (lsX x (k + 1) ++ rsX x (k + 1)) (ysX x (k + 1)) (oneG (nthQ x k)) :=
      (few_one hq).mono (fun j hj => by rw [lsX_succ]; simp at hj; simp [hj]) (fun j hj => by rw [rsX_succ]; simp at hj; simp [hj]) (ysX_new x k)
    show Few _ _ _ (toG (fullB (madeB x k) (nthQ x k) (k % 3 != 2)))
    cases k % 3 != 2
    · rw [full_minus _ hq]; exact h1.minus h2
    · rw [full_or _ hq]; exact h1.or h2
/-- at most two rectangles: nothing is taken away -/
theorem few_made2 (x : List Rct) : ∀ k, k ≤ 2 → Few (lsX x k) (rsX x k) (ysX x k) (toG (madeB x k))
  | 0, _ => by show Few _ _ _ (toG fun _ _ => false); rw [toG_none]; exact Few.none _ _ _
  | k + 1, hk => by
    have hq : okR (nthQ x k) = true := oneQ_ok _
    have h1 := (few_made2 x k (by omega)).mono (L' := lsX x (k + 1)) (R' := rsX x (k + 1)) (fun j hj => by rw [lsX_succ]; simp [hj]) (fun j hj => by rw [rsX_succ]; simp [hj]) (ysX_old x k)
    have h2 : Few (lsX x (k + 1)) (rsX x (k + 1)) (ysX x (k + 1)) (oneG (nthQ x k)) :=
      (few_one hq).mono (fun j hj => by rw [lsX_succ]; simp at hj; simp [hj]) (fun j hj => by rw [rsX_succ]; simp at hj; simp [hj]) (ysX_new x k)
    show Few _ _ _ (toG (fullB (madeB x k) (nthQ x k) (k % 3 != 2)))
    have e : (k % 3 != 2) = true := by simp; omega
    rw [e, full_or _ hq]; exact h1.or h2
theorem few_set : ∀ (l : List Rct) (g : Grd) (L R Y : List Nat), allOk l = true → Few L R Y g → ∃ L' R' Y', L'.length = l.length + L.length ∧ R'.length = l.length + R.length ∧ Y'.length = 2 * l.length + Y.length ∧ Few L' R' Y' (l.foldl fillG g)
  | [], g, L, R, Y, _, h => ⟨L, R, Y, by simp, by simp, by simp, h⟩
  | q :: l, g, L, R, Y, hl, h => by
    unfold allOk at hl
    simp only [List.all_cons, Bool.and_eq_true] at hl
    obtain ⟨L', R', Y', h1, h2, h3, h4⟩ := few_set l _ _ _ _ hl.2 (few_fill h hl.1)
    exact ⟨L', R', Y', by simp at *; omega, by simp at *; omega, by simp at *; omega, h4⟩
end Go.Proofs.YtplamgmmncenjaaDoorR
