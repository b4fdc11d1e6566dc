/- A law for a statement whose order Go leaves open, of which one operation, the last of the head, lays new memory: the head before it walked twice, ahead of that and behind it, both times to the same frame. -/
import Derived.Test.YtplamgmmncenjaaDoorRR
namespace Go.Proofs.YtplamgmmncenjaaDoorR
open Go
section
variable {P : Program} {ops : Array Oper} {s : Nat}
def dstsOK (n : Nat) : List Oper → Bool
  | [] => true
  | o :: l => (match o.dst with | some t => decide (t < n) && l.all (fun o' => o'.dst != some t) | none => false) && dstsOK n l
theorem put_size (a : Act) (d : Option Tmp) (v : Value) : (a.put d v).tmps.size = a.tmps.size := by
  cases d <;> simp [Act.put]
theorem put_get (a : Act) (t : Tmp) (v : Value) (h : t < a.tmps.size) : (a.put (some t) v).tmps.getD t undef = v := by
  simp [Act.put, h]
theorem put_get_ne (a : Act) (d : Option Tmp) (t : Tmp) (v : Value) (h : d ≠ some t) : (a.put d v).tmps.getD t undef = a.tmps.getD t undef := by
  cases d with
  | none => rfl
  | some u =>
    have : u ≠ t := fun e => h (by rw [e])
    simp [Act.put, Array.getElem?_setIfInBounds_ne this]
theorem quiet_keeps {C : World → Prop} {A : Act} {t : Tmp} : ∀ (l : List Oper) (a : Act), (∀ o ∈ l, o.dst ≠ some t) → wpQuiet P ops C (fun a' => a' = A) l a → A.tmps.getD t undef = a.tmps.getD t undef
  | [], a, _, h => by cases h; rfl
  | o :: l, a, hd, h => by
    unfold wpQuiet at h
    have h1 := hd o (by simp)
    have h2 : ∀ o' ∈ l, o'.dst ≠ some t := fun o' ho => hd o' (by simp [ho])
    split at h
    · obtain ⟨v, _, h3⟩ := h
      rw [quiet_keeps l _ h2 h3, put_get_ne a o.dst t v h1]
    · rw [quiet_keeps l _ h2 h, put_get_ne a o.dst t undef h1]
/-- two quiet walks of the head, to the same frame -/
theorem wpP_of_two {w : World} {ob : Obj} {A : Act} {Q : Act → Prop} {rest : List Oper} : ∀ (l : List Oper) (k : Nat) (a : Act), k + l.length ≤ s → dstsOK a.tmps.size l = true →
    wpQuiet P ops (fun w' => ∃ j, w' = w.drewN j) (fun a' => a' = A) l a → wpQuiet P ops (fun w' => ∃ j, w' = (w.alloc ob).drewN j) (fun a' => a' = A) l a →
    wpP P ops (allocPh w ob) s Q (k + l.length) rest A → wpP P ops (allocPh w ob) s Q k (l ++ rest) a
  | [], k, a, _, _, h0, _, h => by cases h0; exact h
  | o :: l, k, a, hs, hd, h0, h1, h => by
    simp only [List.length_cons] at hs h
    unfold dstsOK at hd
    simp only [Bool.and_eq_true] at hd
    obtain ⟨hd1, hd2⟩ := hd
    unfold wpQuiet at h0 h1
    rw [List.cons_append]
    unfold wpP
    have e : k + 1 + l.length = k + (l.length + 1) := by omega
    split
    · rename_i hw
      rw [if_pos hw] at h0 h1
      obtain ⟨v, p0, q0⟩ := h0
      obtain ⟨v', p1, q1⟩ := h1
      have hv : v' = v := by
        cases hdst : o.dst with
        | none => rw [hdst] at hd1; cases hd1
        | some t =>
          rw [hdst] at hd1 q0 q1
          simp only [Bool.and_eq_true, decide_eq_true_eq, List.all_eq_true, bne_iff_ne] at hd1
          have e0 := quiet_keeps l _ hd1.2 q0
          have e1 := quiet_keeps l _ hd1.2 q1
          rw [put_get a t _ hd1.1] at e0 e1
          rw [← e0, ← e1]
      subst hv
      refine ⟨v', ?_, wpP_of_two l (k + 1) _ (by omega) (by rw [put_size]; exact hd2) q0 q1 (by rw [e]; exact h)⟩
      unfold okStep
      rw [if_neg (by omega)]
      intro ph w' hw'
      cases ph with
      | false =>
        have h3 := p0 w' hw'
        unfold Oper.quietAt at h3
        generalize (execOp a.eval o).run P w' = r at *
        cases r with
        | ok n w'' =>
          cases n <;> simp only [Oper.quietUpon] at h3 <;> simp only [qUpon]
          case value u => exact ⟨h3.2, h3.1 ▸ hw'⟩
          case skip => exact ⟨h3.2, h3.1 ▸ hw'⟩
          case enter f args => rw [h3.1]; exact h3.2
        | halt x w'' => simp only [Oper.quietUpon] at h3
      | true =>
        have h3 := p1 w' hw'
        unfold Oper.quietAt at h3
        generalize (execOp a.eval o).run P w' = r at *
        cases r with
        | ok n w'' =>
          cases n <;> simp only [Oper.quietUpon] at h3 <;> simp only [qUpon]
          case value u => exact ⟨h3.2, h3.1 ▸ hw'⟩
          case skip => exact ⟨h3.2, h3.1 ▸ hw'⟩
          case enter f args => rw [h3.1]; exact h3.2
        | halt x w'' => simp only [Oper.quietUpon] at h3
    · rename_i hw
      rw [if_neg hw] at h0 h1
      exact ⟨by omega, wpP_of_two l (k + 1) _ (by omega) (by rw [put_size]; exact hd2) h0 h1 (by rw [e]; exact h)⟩
theorem quiet_end {C : World → Prop} {R : Act → Prop} : ∀ (l : List Oper) (a : Act), wpQuiet P ops C R l a → ∃ A, wpQuiet P ops C (fun a' => a' = A) l a ∧ R A
  | [], a, h => ⟨a, rfl, h⟩
  | o :: l, a, h => by
    unfold wpQuiet at h
    split at h
    · rename_i hw
      obtain ⟨v, p, q⟩ := h
      obtain ⟨A, h1, h2⟩ := quiet_end l _ q
      refine ⟨A, ?_, h2⟩
      unfold wpQuiet
      rw [if_pos hw]
      exact ⟨v, p, h1⟩
    · rename_i hw
      obtain ⟨A, h1, h2⟩ := quiet_end l _ h
      refine ⟨A, ?_, h2⟩
      unfold wpQuiet
      rw [if_neg hw]
      exact h1
/-- THE LAW: operation number s lays the object ob, and is the last of the head; behind it the tail in the one order of the text. -/
theorem region_two_lit {id : Nat} {Q : Exit → Act → World → Prop} {a : Act} {w : World} {l : List Oper} (s : Nat) (ob : Obj) (os : Oper) (v : Value) (hm : P.follows .mixedOrders = true) (hB : Region.lexTailB .any l.toArray (s + 1) = true)
    (hl : l.take (s + 1) = l.take s ++ [os]) (hg : os.guard = none) (hd : dstsOK a.tmps.size (l.take s) = true)
    (h : wpQuiet P l.toArray (fun w' => ∃ j, w' = w.drewN j) (fun A => wpQuiet P l.toArray (fun w' => ∃ j, w' = (w.alloc ob).drewN j) (fun a' => a' = A) (l.take s) a ∧
      (∀ n, (execOp A.eval os).run P (w.drewN n) = .ok (.value v) ((w.alloc ob).drewN n)) ∧ ∀ w', (∃ k, w' = (w.alloc ob).drewN k) → wpList P l.toArray Q (l.drop (s + 1)) (A.put os.dst v) w') (l.take s) a) :
    (Code.region id l.toArray true).wp P Q a w := by
  obtain ⟨A, hA⟩ : ∃ A, wpQuiet P l.toArray (fun w' => ∃ j, w' = w.drewN j) (fun a' => a' = A) (l.take s) a ∧ (wpQuiet P l.toArray (fun w' => ∃ j, w' = (w.alloc ob).drewN j) (fun a' => a' = A) (l.take s) a ∧
      (∀ n, (execOp A.eval os).run P (w.drewN n) = .ok (.value v) ((w.alloc ob).drewN n)) ∧ ∀ w', (∃ k, w' = (w.alloc ob).drewN k) → wpList P l.toArray Q (l.drop (s + 1)) (A.put os.dst v) w') := quiet_end (l.take s) a h
  obtain ⟨h0, h1, h2, h3⟩ := hA
  have hlen : (l.take s).length ≤ s := by simp; omega
  refine region_alloc_tail_lit (s + 1) s ob (by omega) hm hB ?_
  rw [hl]
  refine wpP_of_two (l.take s) 0 a (by omega) hd h0 h1 ?_
  have hls : (l.take s).length = s := by
    have := congrArg List.length hl
    simp only [List.length_take, List.length_append, List.length_cons, List.length_nil] at this ⊢
    omega
  rw [Nat.zero_add, hls]
  exact wpP_op hg v (ok_make h2) h3
end
end Go.Proofs.YtplamgmmncenjaaDoorR
