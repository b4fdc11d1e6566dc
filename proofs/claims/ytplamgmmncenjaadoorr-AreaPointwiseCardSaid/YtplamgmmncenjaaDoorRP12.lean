/- Plain: what the law AreaPointwise asks of areas. No program stands here. -/
import Derived.Test.YtplamgmmncenjaaDoorRP11
namespace Go.Proofs.YtplamgmmncenjaaDoorR
open Go
structure PointF (a b : List Rct) (d : Int) (u c m g : List Rct) : Prop where
  eo : combE orN a b = 0
  lo : combL orN a b = u
  ea : combE andN a b = 0
  la : combL andN a b = c
  em : combE minusN a b = 0
  lm : combL minusN a b = m
  eg : growE a d = 0
  lg : growL a d = g
  vu : validL u = true
  vc : validL c = true
  vm : validL m = true
  vg : validL g = true
  oa : allOk a = true
  ob : allOk b = true
  na : a.length ≤ 100
  nb : b.length ≤ 100
  su : ∀ x y, (hasL u x y == seesW x y (hasL a x y || hasL b x y)) = true
  sc : ∀ x y, (hasL c x y == seesW x y (hasL a x y && hasL b x y)) = true
  sm : ∀ x y, (hasL m x y == seesW x y (hasL a x y && !hasL b x y)) = true
  sg : ∀ x y, (hasL g x y == seesW x y (a.any (nearR x y d))) = true
  sa : ∀ x y, (hasL a x y == seesW x y (a.any (nearR x y 0))) = true
theorem point_facts (x y : List Rct) (hx : x.length ≤ 3) (hy : y.length ≤ 3) (d : Int) (d0 : 0 ≤ d) (d1 : d ≤ 5) : ∃ u c m g, PointF (madeL x) (madeL y) d u c m g := by
  obtain ⟨X, Y, n, A, B⟩ := two_X x y hx hy
  have O := A.or n B
  have C := A.and n B
  have M := A.minus n B
  obtain ⟨X1, Y1, h1, h2, h3⟩ := madeL_X x
  have G := A.ar.grow d0 (by omega) (Ar.grow_few h3 (Nat.le_trans (Nat.mul_le_mul (show 2 * Y1.length ≤ 12 by omega) (show X1.length ≤ 6 by omega)) (by decide)) d.toNat)
  exact ⟨_, _, _, _, O.1, rfl, C.1, rfl, M.1, rfl, G.1, rfl, O.2.ar.valid, C.2.ar.valid, M.2.ar.valid, G.2.valid, A.ar.allOk, B.ar.allOk, A.ar.len100, B.ar.len100,
    fun x y => A.ar.sees_or B.ar O.2.ar x y, fun x y => A.ar.sees_and B.ar C.2.ar x y, fun x y => A.ar.sees_minus B.ar M.2.ar x y, fun x y => A.ar.sees_grow d0 G.2 x y, fun x y => A.ar.sees_self x y⟩
end Go.Proofs.YtplamgmmncenjaaDoorR
