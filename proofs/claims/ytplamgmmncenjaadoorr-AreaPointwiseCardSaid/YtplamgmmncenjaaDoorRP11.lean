/- Plain: what the law AreaCanonical asks of Of. No program stands here. -/
import Derived.Test.YtplamgmmncenjaaDoorRP10
namespace Go.Proofs.YtplamgmmncenjaaDoorR
open Go
/-- the list in another order, one listed again, one of them in two parts -/
def mixL (l : List Rct) (j k : Nat) (one two : Rct) : List Rct := (l.reverse ++ [l.getD j default]).set k one ++ [two]
structure CanonF (l a : List Rct) : Prop where
  e1 : ofE l = 0
  l1 : ofL l = a
  v : validL a = true
  e2 : ofE a = 0
  l2 : ofL a = a
  s : decide (a = a) = true
  em : combE minusN a a = 0
  lm : combL minusN a a = []
  cut : ∀ j k one two, j < l.length → k < (l.reverse ++ [l.getD j default]).length → okR one = true → okR two = true → (∀ x y : Int, (inR x y one || inR x y two) = inR x y ((l.reverse ++ [l.getD j default]).getD k default)) → ofE (mixL l j k one two) = 0 ∧ ofL (mixL l j k one two) = a
theorem canon_facts (l : List Rct) (hl : allOk l = true) (n : l.length ≤ 6) : ∃ a, CanonF l a := by
  have o := set_few hl n
  have A := of_ar hl (by omega) (fun _ _ => rfl) o
  have hs : Eq64 (setL (ofL l)) (setL l) := by rw [A.2.eq]; exact setL_rectsG A.2.ok
  have B := of_ar A.2.allOk (Nat.le_trans A.2.len100 (by omega)) hs o
  have z : Eq64 (combG minusN (setL l) (setL l)) g0 := Eq64.of_bits (combG_ok_minus A.2.ok) g0_ok fun y x _ _ => by rw [minus_bit A.2.ok A.2.ok, Bool.and_not_self]; simp [g0]
  have M := A.2.comb minusN A.2 ⟨combG_ok_minus A.2.ok, rfl, by rw [rectsG_congr z, rectsG_g0]; decide⟩
  refine ⟨_, A.1, rfl, A.2.valid, B.1, (B.2.iff A.2).2 (fun _ _ => rfl), by simp, M.1, ?_, ?_⟩
  · exact (M.2.iff Ar.nil).2 z
  · intro j k one two hj hk ho ht hu
    have hm : allOk (mixL l j k one two) = true := by
      unfold allOk at *
      rw [List.all_eq_true] at *
      intro q hq
      unfold mixL at hq
      rcases List.mem_append.1 hq with h | h
      · rcases List.mem_or_eq_of_mem_set h with h | h
        · rcases List.mem_append.1 h with h | h
          · exact hl q (List.mem_reverse.1 h)
          · rw [List.mem_singleton] at h
            rw [h]
            have : l.getD j default = l[j] := by simp [List.getD, hj]
            rw [this]
            exact hl _ (List.getElem_mem hj)
        · rw [h]; exact ho
      · rw [List.mem_singleton] at h; rw [h]; exact ht
    have hlen : (mixL l j k one two).length ≤ 400 := by unfold mixL; simp; omega
    have e : Eq64 (setL (mixL l j k one two)) (setL l) := same_places hl hm fun x y => by
      unfold mixL
      rw [any_set (inR x y) _ k one two hk (hu x y), any_rev (inR x y) l j hj]
    have D := of_ar hm hlen e o
    exact ⟨D.1, (D.2.iff A.2).2 (fun _ _ => rfl)⟩
theorem cut_x {r : Rct} (hr : okR r = true) {c d : Int} (c0 : 0 ≤ c) (c1 : c < r.r - r.l) (d0 : 0 ≤ d) (d1 : d < 1 + c) : okR ⟨r.l, r.l + 1 + c, r.lo, r.hi⟩ = true ∧ okR ⟨r.l + d, r.r, r.lo, r.hi⟩ = true ∧ ∀ x y : Int, (inR x y ⟨r.l, r.l + 1 + c, r.lo, r.hi⟩ || inR x y ⟨r.l + d, r.r, r.lo, r.hi⟩) = inR x y r := by
  have := okR_parts hr
  refine ⟨by unfold okR; rw [decide_eq_true_eq]; dsimp only; omega, by unfold okR; rw [decide_eq_true_eq]; dsimp only; omega, fun x y => ?_⟩
  rw [Bool.eq_iff_iff, Bool.or_eq_true, inR_iff, inR_iff, inR_iff]
  dsimp only; omega
theorem cut_y {r : Rct} (hr : okR r = true) {c d : Int} (c0 : 0 ≤ c) (c1 : c < r.hi - r.lo) (d0 : 0 ≤ d) (d1 : d < 1 + c) : okR ⟨r.l, r.r, r.lo, r.lo + 1 + c⟩ = true ∧ okR ⟨r.l, r.r, r.lo + d, r.hi⟩ = true ∧ ∀ x y : Int, (inR x y ⟨r.l, r.r, r.lo, r.lo + 1 + c⟩ || inR x y ⟨r.l, r.r, r.lo + d, r.hi⟩) = inR x y r := by
  have := okR_parts hr
  refine ⟨by unfold okR; rw [decide_eq_true_eq]; dsimp only; omega, by unfold okR; rw [decide_eq_true_eq]; dsimp only; omega, fun x y => ?_⟩
  rw [Bool.eq_iff_iff, Bool.or_eq_true, inR_iff, inR_iff, inR_iff]
  dsimp only; omega
theorem drop_rev (l : List Rct) (k : Nat) (hk : k < l.length) : (l.drop k).reverse = (l.drop (k + 1)).reverse ++ [l.getD k default] := by
  have : l.getD k default = l[k] := by simp [List.getD, hk]
  rw [this, List.drop_eq_getElem_cons hk, List.reverse_cons]
end Go.Proofs.YtplamgmmncenjaaDoorR
