/- Walks: the contracts again, for a world that keeps a list of slices read. -/
import Derived.Test.YtplamgmmncenjaaDoorRW16
import Derived.Test.YtplamgmmncenjaaDoorRP9
namespace Go.Proofs.YtplamgmmncenjaaDoorR
open Go.RowKit
/-- the table stands, the slices of ps read, and below w0 nothing has turned -/
structure St (w0 w : World) (ps : List (Value × List Rct)) : Prop where
  tab : HasTab w
  all : ∀ p ∈ ps, SlR w p.1 p.2
  bel : Below w0.heap.size w0 w
section
variable {w0 w w' : World} {ps : List (Value × List Rct)} {v va vb : Value} {l a b u c : List Rct}
theorem St.get (S : St w0 w ps) (i : Nat) (h : ps[i]? = some (v, l)) : SlR w v l := S.all (v, l) (List.mem_of_getElem? h)
theorem St.still (S : St w0 w ps) (k : Below w.heap.size w w') : St w0 w' ps :=
  ⟨S.tab.below k, fun p hp => (S.all p hp).below k, S.bel.trans (k.mono S.bel.size)⟩
theorem St.step (S : St w0 w ps) (k : Below w.heap.size w w') (h : SlR w' v l) : St w0 w' ((v, l) :: ps) :=
  ⟨S.tab.below k, fun p hp => by
    rcases List.mem_cons.1 hp with rfl | hp
    · exact h
    · exact (S.all p hp).below k, S.bel.trans (k.mono S.bel.size)⟩
theorem St.drewN (S : St w0 w ps) (n : Nat) : St w0 (w.drewN n) ps := S.still (below_drewN (Below.refl _ w) n)
theorem St.two {v2 : Value} {l2 : List Rct} (S : St w0 w ps) (k : Below w.heap.size w w') (h : SlR w' v l) (h2 : SlR w' v2 l2) : St w0 w' ((v, l) :: (v2, l2) :: ps) :=
  ⟨S.tab.below k, fun p hp => by
    rcases List.mem_cons.1 hp with rfl | hp
    · exact h
    · rcases List.mem_cons.1 hp with rfl | hp
      · exact h2
      · exact (S.all p hp).below k, S.bel.trans (k.mono S.bel.size)⟩
theorem union_st (S : St w0 w ps) (i j : Nat) (hi : ps[i]? = some (va, a)) (hj : ps[j]? = some (vb, b)) (hE : combE orN a b = 0) (hL : combL orN a b = u) :
    Calls Tryd.prog 12 #[va, vb] w fun e w' => ∃ v, e = .returned (.tuple #[v, .int .i64 0]) ∧ St w0 w' ((v, u) :: ps) :=
  (union_any a b va vb w (S.get i hi) (S.get j hj) S.tab).mono fun _ _ ⟨v, he, hv, hb⟩ => ⟨v, by rw [he, hE], S.step hb (by rw [← hL]; exact hv)⟩
theorem common_st (S : St w0 w ps) (i j : Nat) (hi : ps[i]? = some (va, a)) (hj : ps[j]? = some (vb, b)) (hE : combE andN a b = 0) (hL : combL andN a b = u) :
    Calls Tryd.prog 13 #[va, vb] w fun e w' => ∃ v, e = .returned (.tuple #[v, .int .i64 0]) ∧ St w0 w' ((v, u) :: ps) :=
  (common_any a b va vb w (S.get i hi) (S.get j hj) S.tab).mono fun _ _ ⟨v, he, hv, hb⟩ => ⟨v, by rw [he, hE], S.step hb (by rw [← hL]; exact hv)⟩
theorem minus_st (S : St w0 w ps) (i j : Nat) (hi : ps[i]? = some (va, a)) (hj : ps[j]? = some (vb, b)) (hE : combE minusN a b = 0) (hL : combL minusN a b = u) :
    Calls Tryd.prog 14 #[va, vb] w fun e w' => ∃ v, e = .returned (.tuple #[v, .int .i64 0]) ∧ St w0 w' ((v, u) :: ps) :=
  (minus2_any a b va vb w (S.get i hi) (S.get j hj) S.tab).mono fun _ _ ⟨v, he, hv, hb⟩ => ⟨v, by rw [he, hE], S.step hb (by rw [← hL]; exact hv)⟩
theorem both_st (S : St w0 w ps) (i j : Nat) (hi : ps[i]? = some (va, a)) (hj : ps[j]? = some (vb, b)) (hE : combE orN a b = 0) (hF : combE andN a b = 0) (hL : combL orN a b = u) (hC : combL andN a b = c) :
    Calls Tryd.prog 26 #[va, vb] w fun e w' => ∃ v1 v2, e = .returned (.tuple #[v1, v2, .bool true]) ∧ St w0 w' ((v1, u) :: (v2, c) :: ps) :=
  (both_any a b va vb w (S.get i hi) (S.get j hj) S.tab).mono fun _ _ ⟨v1, v2, he, h1, h2, hb⟩ => ⟨v1, v2, by rw [he, hE, hF]; rfl, S.two hb (by rw [← hL]; exact h1) (by rw [← hC]; exact h2)⟩
theorem grow_st (S : St w0 w ps) (i : Nat) (d : Int) (hi : ps[i]? = some (va, a)) (hE : growE a d = 0) (hL : growL a d = u) :
    Calls Tryd.prog 15 #[va, .int .i64 d] w fun e w' => ∃ v, e = .returned (.tuple #[v, .int .i64 0]) ∧ St w0 w' ((v, u) :: ps) :=
  (grow_any a d va w (S.get i hi) S.tab).mono fun _ _ ⟨v, he, hv, hb⟩ => ⟨v, by rw [he, hE], S.step hb (by rw [← hL]; exact hv)⟩
theorem growX_st (S : St w0 w ps) (i : Nat) (d : Int) (hi : ps[i]? = some (va, a)) (hE : growE a d = 290) (hL : growL a d = u) :
    Calls Tryd.prog 15 #[va, .int .i64 d] w fun e w' => ∃ v, e = .returned (.tuple #[v, .int .i64 290]) ∧ St w0 w' ((v, u) :: ps) :=
  (grow_any a d va w (S.get i hi) S.tab).mono fun _ _ ⟨v, he, hv, hb⟩ => ⟨v, by rw [he, hE], S.step hb (by rw [← hL]; exact hv)⟩
theorem of_st {x : Int} (S : St w0 w ps) (i : Nat) (hi : ps[i]? = some (va, a)) (hE : ofE a = x) (hL : ofL a = u) :
    Calls Tryd.prog 21 #[va] w fun e w' => ∃ v, e = .returned (.tuple #[v, .int .i64 x]) ∧ St w0 w' ((v, u) :: ps) :=
  (of_any a va w (S.get i hi) S.tab).mono fun _ _ ⟨v, he, hv, hb⟩ => ⟨v, by rw [he, hE], S.step hb (by rw [← hL]; exact hv)⟩
theorem within_st {r : Bool} (S : St w0 w ps) (i j : Nat) (hi : ps[i]? = some (va, a)) (hj : ps[j]? = some (vb, b)) (hR : withinL a b = r) :
    Calls Tryd.prog 27 #[va, vb] w fun e w' => e = .returned (.bool r) ∧ St w0 w' ps :=
  (within_any a b va vb w (S.get i hi) (S.get j hj) S.tab).mono fun _ _ ⟨he, hb⟩ => ⟨by rw [he, hR], S.still hb⟩
theorem same_st {r : Bool} (S : St w0 w ps) (i j : Nat) (hi : ps[i]? = some (va, a)) (hj : ps[j]? = some (vb, b)) (hR : decide (a = b) = r) :
    Calls Tryd.prog 22 #[va, vb] w fun e w' => e = .returned (.bool r) ∧ St w0 w' ps :=
  (same_any a b va vb w (S.get i hi) (S.get j hj)).mono fun _ _ ⟨he, n, hb⟩ => ⟨by rw [he, hR], by rw [hb]; exact S.drewN n⟩
theorem valid_st {r : Bool} (S : St w0 w ps) (i : Nat) (hi : ps[i]? = some (va, a)) (hR : validL a = r) :
    Calls Tryd.prog 16 #[va] w fun e w' => e = .returned (.bool r) ∧ St w0 w' ps :=
  (valid_any a va w (S.get i hi) S.tab).mono fun _ _ ⟨he, hb⟩ => ⟨by rw [he, hR], S.still hb⟩
theorem hasA_st {r : Bool} (S : St w0 w ps) (i : Nat) (x y : Int) (hi : ps[i]? = some (va, a)) (hR : hasL a x y = r) :
    Calls Tryd.prog 17 #[va, .int .i64 x, .int .i64 y] w fun e w' => e = .returned (.bool r) ∧ St w0 w' ps :=
  (hasA_any a va x y w (S.get i hi) S.tab).mono fun _ _ ⟨he, hb⟩ => ⟨by rw [he, hR], S.still hb⟩
theorem sees_st {r q : Bool} (S : St w0 w ps) (i : Nat) (x y : Int) (hi : ps[i]? = some (va, a)) (hR : (hasL a x y == seesW x y q) = r) :
    Calls Tryd.prog 18 #[va, .int .i64 x, .int .i64 y, .bool q] w fun e w' => e = .returned (.bool r) ∧ St w0 w' ps :=
  (sees_any a va x y q w (S.get i hi) S.tab).mono fun _ _ ⟨he, hb⟩ => ⟨by rw [he, hR], S.still hb⟩
theorem near_st {r : Bool} (S : St w0 w ps) (i : Nat) (x y d : Int) (hi : ps[i]? = some (va, a)) (hok : allOk a = true) (h0 : 0 ≤ d) (h1 : d ≤ 64) (hR : a.any (nearR x y d) = r) :
    Calls Tryd.prog 19 #[va, .int .i64 x, .int .i64 y, .int .i64 d] w fun e w' => e = .returned (.bool r) ∧ St w0 w' ps :=
  (near_any a va x y d w (S.get i hi) hok h0 h1).mono fun _ _ ⟨he, hb⟩ => ⟨by rw [he, hR], S.still hb⟩
theorem size_st {r : Int} (S : St w0 w ps) (i : Nat) (hi : ps[i]? = some (va, a)) (hR : (sizeL a : Int) = r) :
    Calls Tryd.prog 23 #[va] w fun e w' => e = .returned (.int .i64 r) ∧ St w0 w' ps :=
  (size_any a va w (S.get i hi) S.tab).mono fun _ _ ⟨he, hb⟩ => ⟨by rw [he, hR], S.still hb⟩
theorem sum_st {r : Int} (S : St w0 w ps) (i : Nat) (hi : ps[i]? = some (va, a)) (hok : allOk a = true) (hlen : a.length ≤ 4096) (hR : sumL a = r) :
    Calls Tryd.prog 24 #[va] w fun e w' => e = .returned (.int .i64 r) ∧ St w0 w' ps :=
  (sum_any a va w (S.get i hi) hok hlen).mono fun _ _ ⟨he, n, hb⟩ => ⟨by rw [he, hR], by rw [hb]; exact S.drewN n⟩
theorem whole_st (S : St w0 w ps) :
    Calls Tryd.prog 25 #[] w fun e w' => ∃ v, e = .returned v ∧ St w0 w' ((v, [whR]) :: ps) :=
  (whole_any w).mono fun _ _ ⟨v, he, hv, hb⟩ => ⟨v, he, S.step hb hv⟩
theorem made_st (S : St w0 w ps) (i : Nat) (hi : ps[i]? = some (va, a)) (hx : xok a) (hL : madeL a = u) :
    Calls Tryd.prog 10 #[va] w fun e w' => ∃ v, e = .returned v ∧ St w0 w' ((v, u) :: ps) :=
  (made_any a va w (S.get i hi) hx).mono fun _ _ ⟨v, he, hv, hb⟩ => ⟨v, he, S.step hb (by rw [← hL]; exact hv)⟩
theorem list_st (S : St w0 w ps) (i : Nat) (hi : ps[i]? = some (va, a)) (hx : xok a) (hL : listL a = u) :
    Calls Tryd.prog 20 #[va] w fun e w' => ∃ v, e = .returned v ∧ St w0 w' ((v, u) :: ps) :=
  (list_any a va w (S.get i hi) hx).mono fun _ _ ⟨v, he, hv, hb⟩ => ⟨v, he, S.step hb (by rw [← hL]; exact hv)⟩
theorem rect_st (S : St w0 w ps) (x y z t : Int) :
    Calls Tryd.prog 28 #[.int .i64 x, .int .i64 y, .int .i64 z, .int .i64 t] w fun e w' => e = .returned (.agg #[.int .i64 x, .int .i64 y, .int .i64 z, .int .i64 t]) ∧ St w0 w' ps :=
  (rectA_any x y z t w).mono fun _ _ ⟨he, hb⟩ => ⟨he, S.still hb⟩
theorem xok_take {x : List Rct} (h : xok x) (k : Nat) : xok (x.take k) := by
  intro i hi
  rw [List.length_take] at hi
  have : (x.take k).getD i default = x.getD i default := by
    simp only [List.getD_eq_getElem?_getD, List.getElem?_take]
    rw [if_pos (by omega)]
  rw [this]
  exact h i (by omega)
end
end Go.Proofs.YtplamgmmncenjaaDoorR
