/- A law for a statement whose order Go leaves open: a head of operations each of which yields one value in every world that may be there, one of them (number s) perhaps laying new memory; behind all of them a tail in one forced order. The walk of the one order of the text serves every order. Also inside a round of a range over a function. -/
import Derived.Deep.Quiet
import Derived.StillTail
import Derived.BigQuiet
import Derived.TacticsIn
import Derived.OrdersIn
import Derived.RangeFuncCalls
import Derived.WalkKit
namespace Go.Proofs.YtplamgmmncenjaaDoorR
open Go
section
variable {P : Program} {ops : Array Oper} {md : Region.Mode} {C : Bool → World → Prop} {s : Nat}

def qUpon (P : Program) (D : World → Prop) (v : Value) : Result Next → Prop
  | .ok (.value u) w' => u = v ∧ D w'
  | .ok .skip w' => v = undef ∧ D w'
  | .ok (.enter f args) w' => Calls P f args w' fun e w'' => e = .returned v ∧ D w''
  | _ => False
def StepsTo (P : Program) (o : Oper) (a : Act) (Ci Co : World → Prop) (v : Value) : Prop := ∀ w, Ci w → qUpon P Co v ((execOp a.eval o).run P w)
def okStep (P : Program) (C : Bool → World → Prop) (s i : Nat) (o : Oper) (a : Act) (v : Value) : Prop :=
  if i = s then StepsTo P o a (C false) (C true) v else ∀ ph, StepsTo P o a (C ph) (C ph) v
def wpP (P : Program) (ops : Array Oper) (C : Bool → World → Prop) (s : Nat) (Q : Act → Prop) : Nat → List Oper → Act → Prop
  | _, [], a => Q a
  | k, o :: rest, a => if Region.wanted o (yielded ops a.tmps) then ∃ v, okStep P C s k o a v ∧ wpP P ops C s Q (k + 1) rest (a.put o.dst v) else k ≠ s ∧ wpP P ops C s Q (k + 1) rest (a.put o.dst undef)
def pOp (P : Program) (ops : Array Oper) (C : Bool → World → Prop) (s i : Nat) (K : Act → Prop) (a : Act) : Prop :=
  match ops[i]? with
  | none => i ≠ s ∧ K a
  | some o => if Region.wanted o (yielded ops a.tmps) then ∃ v, okStep P C s i o a v ∧ K (a.put o.dst v) else i ≠ s ∧ K (a.put o.dst undef)
theorem pOp_mono {i : Nat} {a : Act} {K K' : Act → Prop} (h : ∀ a, K a → K' a) (hh : pOp P ops C s i K a) : pOp P ops C s i K' a := by
  unfold pOp at *
  split
  · rename_i ho; simp only [ho] at hh; exact ⟨hh.1, h _ hh.2⟩
  · rename_i o ho
    simp only [ho] at hh
    split
    · rename_i hw; simp only [hw, if_true] at hh; obtain ⟨v, h1, h2⟩ := hh; exact ⟨v, h1, h _ h2⟩
    · rename_i hw; simp only [hw] at hh; exact ⟨hh.1, h _ hh.2⟩

/-- the world's class when these have come up -/
def atPh (C : Bool → World → Prop) (s : Nat) (listed : Array Bool) : World → Prop := C (listed.getD s false)
theorem okStep.run {i : Nat} {o : Oper} {a : Act} {v : Value} {listed : Array Bool} (hi : i < listed.size) (hun : listed.getD i true = false) (h : okStep P C s i o a v) :
    StepsTo P o a (atPh C s listed) (atPh C s (listed.setIfInBounds i true)) v := by
  unfold okStep at h
  unfold atPh
  by_cases e : i = s
  · subst e
    rw [if_pos rfl] at h
    have h1 : listed.getD i false = false := by simp [hi] at hun ⊢; exact hun
    have h2 : (listed.setIfInBounds i true).getD i false = true := by simp [hi]
    rw [h1, h2]; exact h
  · rw [if_neg e] at h
    have : (listed.setIfInBounds i true).getD s false = listed.getD s false := getD_set_ne false e
    rw [this]; exact h _
theorem atPh_skip {i : Nat} {listed : Array Bool} (h : i ≠ s) : atPh C s (listed.setIfInBounds i true) = atPh C s listed := by
  unfold atPh; rw [getD_set_ne false h]

theorem wpOp_of_pOp {i : Nat} {a : Act} {K : Act → Prop} {K' : Act → World → Prop} {Q' : Exit → Act → World → Prop} {w : World} {listed : Array Bool} (hi : i < listed.size) (hun : listed.getD i true = false)
    (hC : atPh C s listed w) (h : ∀ a w', atPh C s (listed.setIfInBounds i true) w' → K a → K' a w') (hh : pOp P ops C s i K a) : wpOp P ops Q' i K' a w := by
  unfold pOp at hh
  unfold wpOp
  split
  · rename_i ho; simp only [ho] at hh; exact h _ _ (by rw [atPh_skip hh.1]; exact hC) hh.2
  · rename_i o ho
    simp only [ho] at hh
    split
    · rename_i hw
      simp only [hw, if_true] at hh
      obtain ⟨v, h1, h2⟩ := hh
      have h3 := h1.run hi hun w hC
      refine .inl ?_
      unfold Oper.wp
      generalize (execOp a.eval o).run P w = r at *
      cases r with
      | ok n w' =>
        cases n <;> simp only [qUpon] at h3 <;> simp only [Oper.upon]
        case value u => rw [h3.1]; exact h _ _ h3.2 h2
        case skip => rw [← h3.1]; exact h _ _ h3.2 h2
        case enter f args => exact h3.mono fun e w'' ⟨he, hw''⟩ => by subst he; exact h _ _ hw'' h2
      | halt x w' => simp only [qUpon] at h3
    · rename_i hw; simp only [hw] at hh; exact h _ _ (by rw [atPh_skip hh.1]; exact hC) hh.2
theorem wpOpIn_of_pOp {l n : Nat} (hnd : ∀ (j : Nat) (o : Oper) c, ops[j]? = some o → o.op ≠ .defer c) {i : Nat} {a : Act} {K : Act → Prop} {K' : Act → World → Prop} {Q' : Exit → Act → World → Prop} {w : World} {listed : Array Bool} (hi : i < listed.size) (hun : listed.getD i true = false)
    (hC : atPh C s listed w) (h : ∀ a w', atPh C s (listed.setIfInBounds i true) w' → K a → K' a w') (hh : pOp P ops C s i K a) : wpOpIn (Fence.wide.inRound l) n P ops Q' i K' a w := by
  unfold pOp at hh
  unfold wpOpIn
  split
  · rename_i ho; simp only [ho] at hh; exact h _ _ (by rw [atPh_skip hh.1]; exact hC) hh.2
  · rename_i o ho
    simp only [ho] at hh
    split
    · rename_i hw
      simp only [hw, if_true] at hh
      obtain ⟨v, h1, h2⟩ := hh
      have h3 := h1.run hi hun w hC
      refine ⟨fun _ _ => trivial, ?_⟩
      rw [show (Fence.wide.inRound l).round = some l from rfl, Oper.semAt_some l a.eval o (fun c => hnd i o c ho)]
      generalize (execOp a.eval o).run P w = r at *
      cases r with
      | ok nx w' =>
        cases nx <;> simp only [qUpon] at h3 <;> simp only [Oper.uponIn]
        case value u => rw [h3.1]; exact h _ _ h3.2 h2
        case skip => rw [← h3.1]; exact h _ _ h3.2 h2
        case enter f args =>
          refine ⟨(fun e => by cases e), CallsIn.inRound l (callsIn_wide.2 ?_)⟩
          exact h3.mono fun e w'' hh => by obtain ⟨he, hw''⟩ := hh; subst he; exact h _ _ hw'' h2
      | halt x w' => simp only [qUpon] at h3
    · rename_i hw; simp only [hw] at hh; exact ⟨fun _ _ => trivial, h _ _ (by rw [atPh_skip hh.1]; exact hC) hh.2⟩

/-- whatever order of the head -/
def anyP (P : Program) (md : Region.Mode) (ops : Array Oper) (C : Bool → World → Prop) (s n : Nat) (L : Array Bool → Act → Prop) : Nat → Array Bool → Act → Prop
  | 0, listed, a => L listed a
  | f + 1, listed, a =>
    Region.ready md ops listed ≠ [] ∧ ∀ i ∈ Region.ready md ops listed, i < n ∧ pOp P ops C s i (anyP P md ops C s n L f (listed.setIfInBounds i true)) a
theorem ready_un {listed : Array Bool} {i : Nat} (h : i ∈ Region.ready md ops listed) : listed.getD i true = false := (mem_ready.1 h).1
theorem ready_lt {listed : Array Bool} {i : Nat} (h : i ∈ Region.ready md ops listed) : i < listed.size := by
  have := ready_un h
  rcases Nat.lt_or_ge i listed.size with h' | h'
  · exact h'
  · simp [Array.getElem?_eq_none h'] at this
theorem any_of_headP {n g : Nat} {L : Array Bool → Act → Prop} {Q' : Exit → Act → World → Prop} (hL : ∀ listed a w, atPh C s listed w → L listed a → wpAny P md ops Q' g listed a w) :
    ∀ (f : Nat) (listed : Array Bool) (a : Act) (w : World), atPh C s listed w → anyP P md ops C s n L f listed a → wpAny P md ops Q' (f + g) listed a w
  | 0, listed, a, w, hw, h => by rw [Nat.zero_add]; exact hL _ _ _ hw h
  | f + 1, listed, a, w, hw, h => by
    rw [show f + 1 + g = (f + g) + 1 by omega]
    exact ⟨fun h0 => absurd h0 h.1, fun i hi => wpOp_of_pOp (ready_lt hi) (ready_un hi) hw (fun a' w' hw' h' => any_of_headP hL f _ a' w' hw' h') (h.2 i hi).2⟩
theorem anyIn_of_headP {l n' : Nat} (hnd : ∀ (j : Nat) (o : Oper) c, ops[j]? = some o → o.op ≠ .defer c) {n g : Nat} {L : Array Bool → Act → Prop} {Q' : Exit → Act → World → Prop} (hL : ∀ listed a w, atPh C s listed w → L listed a → wpAnyIn (Fence.wide.inRound l) n' P md ops Q' g listed a w) :
    ∀ (f : Nat) (listed : Array Bool) (a : Act) (w : World), atPh C s listed w → anyP P md ops C s n L f listed a → wpAnyIn (Fence.wide.inRound l) n' P md ops Q' (f + g) listed a w
  | 0, listed, a, w, hw, h => by rw [Nat.zero_add]; exact hL _ _ _ hw h
  | f + 1, listed, a, w, hw, h => by
    rw [show f + 1 + g = (f + g) + 1 by omega]
    exact ⟨fun h0 => absurd h0 h.1, fun i hi => wpOpIn_of_pOp hnd (ready_lt hi) (ready_un hi) hw (fun a' w' hw' h' => anyIn_of_headP hnd hL f _ a' w' hw' h') (h.2 i hi).2⟩

/-- operation number i leaves v -/
def YieldsP (P : Program) (ops : Array Oper) (C : Bool → World → Prop) (s i : Nat) (o : Oper) (v : Value) (a : Act) : Prop :=
  (Region.wanted o (yielded ops a.tmps) = true ∧ okStep P C s i o a v) ∨ (Region.wanted o (yielded ops a.tmps) = false ∧ v = undef ∧ i ≠ s)
theorem YieldsP.pOp {i : Nat} {o : Oper} {v : Value} {a : Act} (hi : ops[i]? = some o) (hy : YieldsP P ops C s i o v a) {K : Act → Prop} (h : K (a.put o.dst v)) : pOp P ops C s i K a := by
  unfold YtplamgmmncenjaaDoorR.pOp
  simp only [hi]
  rcases hy with ⟨hw, hv⟩ | ⟨hw, rfl, hs⟩
  · simp only [hw, if_true]; exact ⟨v, hv, h⟩
  · simp only [hw, Bool.false_eq_true, if_false]; exact ⟨hs, h⟩
theorem okStep.of_same {i : Nat} {o : Oper} {v : Value} {a a' : Act} (h : okStep P C s i o a v) (he : execOp a'.eval o = execOp a.eval o) : okStep P C s i o a' v := by
  unfold okStep StepsTo at *; rw [he]; exact h
theorem YieldsP.of_same {i : Nat} {o : Oper} {v : Value} {a a' : Act} (hy : YieldsP P ops C s i o v a) (he : execOp a'.eval o = execOp a.eval o)
    (hw : Region.wanted o (yielded ops a'.tmps) = Region.wanted o (yielded ops a.tmps)) : YieldsP P ops C s i o v a' := by
  rcases hy with ⟨h1, h2⟩ | ⟨h1, h2⟩
  · exact .inl ⟨hw.trans h1, h2.of_same he⟩
  · exact .inr ⟨hw.trans h1, h2⟩
theorem yieldsP_of_pOp {i : Nat} {o : Oper} {a : Act} {K : Act → Prop} (hi : ops[i]? = some o) (h : pOp P ops C s i K a) : ∃ v, YieldsP P ops C s i o v a ∧ K (a.put o.dst v) := by
  unfold pOp at h
  simp only [hi] at h
  by_cases hw : Region.wanted o (yielded ops a.tmps) = true
  · simp only [hw, if_true] at h
    obtain ⟨v, h1, h2⟩ := h
    exact ⟨v, .inl ⟨hw, h1⟩, h2⟩
  · simp only [hw] at h
    exact ⟨undef, .inr ⟨by simpa using hw, rfl, h.1⟩, h.2⟩
theorem pOp_put {i j : Nat} {oi oj : Oper} {v : Value} (hj : ops[j]? = some oj) (hap : oi.apart ops oj = true)
    (hsi : ∀ cs b, oi.op ≠ .select cs b) (hsj : ∀ cs b, oj.op ≠ .select cs b) {K : Act → Prop} {a : Act}
    (hy : YieldsP P ops C s i oi v a) (h : pOp P ops C s j K (a.put oi.dst v)) :
    pOp P ops C s j (fun a' => YieldsP P ops C s i oi v a' ∧ K (a'.put oi.dst v)) a := by
  obtain ⟨h1, h2, h3⟩ := Oper.apart_spec hap
  have keep : ∀ (u : Value), YieldsP P ops C s i oi v (a.put oj.dst u) := fun u =>
    hy.of_same (execOp_put oi hsi a oj.dst u h3) (wanted_put oi a oj.dst u h3)
  unfold pOp at *
  simp only [hj] at *
  rw [wanted_put oj a oi.dst v h1] at h
  split
  · rename_i hw
    simp only [hw, if_true] at h
    obtain ⟨u, hu, hn⟩ := h
    exact ⟨u, hu.of_same (execOp_put oj hsj a oi.dst v h1).symm, keep u, by rw [← Act.put_comm a v u h2]; exact hn⟩
  · rename_i hw
    simp only [hw] at h
    exact ⟨h.1, keep _, by rw [← Act.put_comm a v undef h2]; exact h.2⟩
theorem anyP_first {n i : Nat} {oi : Oper} {v : Value} {L : Array Bool → Act → Prop} (hi : ops[i]? = some oi) (hsel : ∀ (j : Nat) (o : Oper) cs b, ops[j]? = some o → o.op ≠ .select cs b)
    (hs : Region.sinkB md ops n = true) (hc : Region.chainB md ops n = true) (hn : n < ops.size) (hin : i < n)
    (hdone : ∀ listed a, L listed a → ∀ j ∈ Region.ready md ops listed, n ≤ j) :
    ∀ (f : Nat) (listed : Array Bool) (a : Act), HeadInv md ops n listed →
      (∀ j oj, ops[j]? = some oj → j ≠ i → listed.getD j true = false → (∀ e ∈ oj.after, Region.binds md e = true → e.on ≠ i) → oi.apart ops oj = true) →
      i ∈ Region.ready md ops listed → YieldsP P ops C s i oi v a →
      anyP P md ops C s n L f (listed.setIfInBounds i true) (a.put oi.dst v) → anyP P md ops C s n L (f + 1) listed a := by
  intro f
  induction f with
  | zero =>
    intro listed a inv _ hr hy H
    refine ⟨fun h => (by rw [h] at hr; cases hr), fun j hj => ?_⟩
    have hjn : j < n := (Nat.lt_or_ge j n).resolve_right fun h => tail_waits hs hc hn inv _ i rfl hin (ready_un hr) j h hj
    refine ⟨hjn, ?_⟩
    by_cases hji : j = i
    · subst hji; exact hy.pOp hi H
    · have := hdone _ _ H j (ready_mono hj hji); omega
  | succ f ih =>
    intro listed a inv hfree hr hy H
    have hun := ready_un hr
    refine ⟨fun h => (by rw [h] at hr; cases hr), fun j hj => ?_⟩
    have hjn : j < n := (Nat.lt_or_ge j n).resolve_right fun h => tail_waits hs hc hn inv _ i rfl hin hun j h hj
    refine ⟨hjn, ?_⟩
    by_cases hji : j = i
    · subst hji; exact hy.pOp hi H
    · obtain ⟨hjun, oj, hoj, hall⟩ := mem_ready.1 hj
      have hnot : ∀ e ∈ oj.after, Region.binds md e = true → e.on ≠ i := fun e he hb heq => by
        have h1 := hall e he hb
        rw [heq, getD_both hun] at h1
        cases h1
      have h2 := pOp_put hoj (hfree j oj hoj hji hjun hnot) (fun cs b => hsel i oi cs b hi) (fun cs b => hsel j oj cs b hoj) hy (H.2 j (ready_mono hj hji)).2
      refine pOp_mono (fun a' h3 => ih (listed.setIfInBounds j true) a' (inv.set hj hjn) ?_ (ready_mono hr (Ne.symm hji)) h3.1 ?_) h2
      · intro k ok hk hki hunk hno
        refine hfree k ok hk hki ?_ hno
        by_cases hjk : j = k
        · subst hjk; exact hjun
        · rw [getD_set_ne true hjk] at hunk; exact hunk
      · rw [Array.setIfInBounds_comm _ _ hji]; exact h3.2
theorem anyP_lex {n g : Nat} {Lq : Act → Prop} (hsel : Region.noSelect ops = true) (hs : Region.sinkB md ops n = true) (hc : Region.chainB md ops n = true) (hn : n < ops.size) :
    ∀ (l : List Oper) (k : Nat) (listed : Array Bool) (a : Act), (∀ j, j < l.length → l[j]? = ops[k + j]?) → k + l.length = n → HeadInv md ops n listed → (∀ j, j < k → listed.getD j false = true) →
    Region.lexHead md ops g l.length k listed = true → wpP P ops C s Lq k l a →
    anyP P md ops C s n (fun listed' a' => (∀ j, j < n → listed'.getD j false = true) ∧ HeadInv md ops n listed' ∧ Region.seqB md ops g n listed' = true ∧ Lq a') l.length listed a
  | [], k, listed, a, _, hk, inv, hli, hB, h => by
    have : k = n := by simpa using hk
    subst this
    exact ⟨hli, inv, by simpa [Region.lexHead] using hB, h⟩
  | o :: l, k, listed, a, hl, hk, inv, hli, hB, h => by
    have h0 : ops[k]? = some o := by simpa using (hl 0 (by simp)).symm
    simp only [List.length_cons, Region.lexHead, Bool.and_eq_true] at hB
    obtain ⟨⟨hr, hf⟩, hB'⟩ := hB
    have hkn : k < n := by simp only [List.length_cons] at hk; omega
    have hr' : k ∈ Region.ready md ops listed := by simpa using hr
    have hst : pOp P ops C s k (wpP P ops C s Lq (k + 1) l) a := by unfold pOp; simp only [h0]; exact h
    obtain ⟨v, hy, hK⟩ := yieldsP_of_pOp h0 hst
    refine anyP_first h0 (Region.noSelect_spec hsel) hs hc hn hkn (fun listed' a' hL => seqB_ready hL.2.2.1) l.length listed a inv (Region.free_spec h0 hf) hr' hy
      (anyP_lex hsel hs hc hn l (k + 1) _ _ (fun j hj => by have := hl (j + 1) (by simp; omega); simpa [Nat.add_assoc, Nat.add_comm 1 j] using this) (by simp only [List.length_cons] at hk; omega) (inv.set hr' hkn) ?_ hB' hK)
    intro j hj
    by_cases e : j = k
    · subst e; have := ready_lt hr'; simp [this]
    · rw [getD_set_ne false (by omega)]; exact hli j (by omega)

theorem any_phase {Q : Exit → Act → World → Prop} {a : Act} {w : World} {l : List Oper} (n : Nat) (hB : Region.lexTailB .any l.toArray n = true) (hC : C false w)
    (h : wpP P l.toArray C s (fun a' => ∀ w', C (decide (s < n)) w' → wpList P l.toArray Q (l.drop n) a' w') 0 (l.take n) a) : wpAny P .any l.toArray Q l.toArray.size (Array.replicate l.toArray.size false) a w := by
  simp only [Region.lexTailB, Bool.and_eq_true, decide_eq_true_eq] at hB
  obtain ⟨⟨⟨⟨hsel, hn⟩, hs⟩, hc⟩, hlex⟩ := hB
  have hn' : n < l.length := by simpa using hn
  have htl : (l.take n).length = n := by simp; omega
  have hdl : (l.drop n).length = l.toArray.size - n := by simp
  have inv0 : HeadInv .any l.toArray n (Array.replicate l.toArray.size false) :=
    ⟨by simp, fun j oj _ hl => (by rw [getD_replicate_false] at hl; cases hl), fun t _ ht => getD_in (by simpa using ht) (getD_replicate_false _ _)⟩
  have H := anyP_lex (C := C) (s := s) (md := .any) (g := l.toArray.size - n) hsel hs hc hn (l.take n) 0 _ a (fun j hj => by
    have hj' : j < n := by rw [htl] at hj; exact hj
    simp [hj']) (by simpa using htl) inv0 (fun j hj => by omega) (by rw [htl]; exact hlex) h
  have := any_of_headP (C := C) (s := s) (Q' := Q) (g := l.toArray.size - n) (fun listed a' w' hw' hL => by
    have hph : listed.getD s false = decide (s < n) := by
      by_cases e : s < n
      · rw [hL.1 s e]; simp [e]
      · have hs' : listed.getD s true = false ∨ listed.size ≤ s := by
          rcases Nat.lt_or_ge s l.toArray.size with h1 | h1
          · exact .inl (hL.2.1.tail s (by omega) h1)
          · exact .inr (by rw [hL.2.1.size]; exact h1)
        rcases hs' with h1 | h1
        · rw [getD_both h1]; simp [e]
        · simp [Array.getElem?_eq_none h1, e]
    unfold atPh at hw'
    rw [hph] at hw'
    have := wpAny_of_seq (md := .any) (Q' := Q) (l.drop n) n listed a' w' (fun j => by simp [List.getElem?_drop]) (by rw [hdl]; exact hL.2.2.1) (hL.2.2.2 w' hw')
    rwa [hdl] at this) _ _ _ w (by unfold atPh; rw [getD_replicate_false]; exact hC) H
  rw [htl, show n + (l.toArray.size - n) = l.toArray.size by omega] at this
  exact this
theorem wpAnyIn_of_seq {l' n' : Nat} {Q' : Exit → Act → World → Prop} : ∀ (l : List Oper) (k : Nat) (listed : Array Bool) (a : Act) (w : World), (∀ j, l[j]? = ops[k + j]?) →
    Region.seqB md ops l.length k listed = true → wpListIn (Fence.wide.inRound l') n' P ops Q' l a w → wpAnyIn (Fence.wide.inRound l') n' P md ops Q' l.length listed a w
  | [], k, listed, a, w, _, hB, h => ⟨by simpa [Region.seqB] using hB, h⟩
  | o :: l, k, listed, a, w, hl, hB, h => by
    have h0 : ops[k]? = some o := by simpa using (hl 0).symm
    simp only [List.length_cons, Region.seqB, Bool.and_eq_true, decide_eq_true_eq] at hB
    refine ⟨fun h1 => (by rw [hB.1] at h1; cases h1), fun i hi => ?_⟩
    rw [hB.1] at hi
    have hik : i = k := by simpa using hi
    subst hik
    have hw : wpOpIn (Fence.wide.inRound l') n' P ops Q' i (wpListIn (Fence.wide.inRound l') n' P ops Q' l) a w := by unfold wpOpIn; simp only [h0]; exact h
    exact wpOpIn_mono (fun a' w' h' => wpAnyIn_of_seq l (i + 1) _ a' w' (fun j => by have := hl (j + 1); simpa [Nat.add_assoc, Nat.add_comm 1 j] using this) hB.2 h') hw
theorem anyIn_phase {l' n' : Nat} {Q : Exit → Act → World → Prop} {a : Act} {w : World} {l : List Oper} (n : Nat) (hB : Region.lexTailB .any l.toArray n = true) (hnd : (l.all fun o => match o.op with | .defer _ => false | _ => true) = true) (hC : C false w)
    (h : wpP P l.toArray C s (fun a' => ∀ w', C (decide (s < n)) w' → wpListIn (Fence.wide.inRound l') n' P l.toArray Q (l.drop n) a' w') 0 (l.take n) a) : wpAnyIn (Fence.wide.inRound l') n' P .any l.toArray Q l.toArray.size (Array.replicate l.toArray.size false) a w := by
  have hnd' : ∀ (j : Nat) (o : Oper) c, l.toArray[j]? = some o → o.op ≠ .defer c := fun j o c ho e => by
    have hm : o ∈ l := List.mem_of_getElem? (by simpa using ho)
    have := List.all_eq_true.1 hnd o hm
    rw [e] at this; cases this
  simp only [Region.lexTailB, Bool.and_eq_true, decide_eq_true_eq] at hB
  obtain ⟨⟨⟨⟨hsel, hn⟩, hs⟩, hc⟩, hlex⟩ := hB
  have hn' : n < l.length := by simpa using hn
  have htl : (l.take n).length = n := by simp; omega
  have hdl : (l.drop n).length = l.toArray.size - n := by simp
  have inv0 : HeadInv .any l.toArray n (Array.replicate l.toArray.size false) :=
    ⟨by simp, fun j oj _ hl => (by rw [getD_replicate_false] at hl; cases hl), fun t _ ht => getD_in (by simpa using ht) (getD_replicate_false _ _)⟩
  have H := anyP_lex (C := C) (s := s) (md := .any) (g := l.toArray.size - n) hsel hs hc hn (l.take n) 0 _ a (fun j hj => by
    have hj' : j < n := by rw [htl] at hj; exact hj
    simp [hj']) (by simpa using htl) inv0 (fun j hj => by omega) (by rw [htl]; exact hlex) h
  have := anyIn_of_headP (l := l') (n' := n') hnd' (C := C) (s := s) (Q' := Q) (g := l.toArray.size - n) (fun listed a' w' hw' hL => by
    have hph : listed.getD s false = decide (s < n) := by
      by_cases e : s < n
      · rw [hL.1 s e]; simp [e]
      · have hs' : listed.getD s true = false ∨ listed.size ≤ s := by
          rcases Nat.lt_or_ge s l.toArray.size with h1 | h1
          · exact .inl (hL.2.1.tail s (by omega) h1)
          · exact .inr (by rw [hL.2.1.size]; exact h1)
        rcases hs' with h1 | h1
        · rw [getD_both h1]; simp [e]
        · simp [Array.getElem?_eq_none h1, e]
    unfold atPh at hw'
    rw [hph] at hw'
    have := wpAnyIn_of_seq (l' := l') (n' := n') (md := .any) (Q' := Q) (l.drop n) n listed a' w' (fun j => by simp [List.getElem?_drop]) (by rw [hdl]; exact hL.2.2.1) (hL.2.2.2 w' hw')
    rwa [hdl] at this) _ _ _ w (by unfold atPh; rw [getD_replicate_false]; exact hC) H
  rw [htl, show n + (l.toArray.size - n) = l.toArray.size by omega] at this
  exact this

/-- the kit's walk of a quiet head serves -/
theorem wpP_of_quiet {C0 : World → Prop} {Q : Act → Prop} {s : Nat} : ∀ (l : List Oper) (k : Nat) (a : Act), k + l.length ≤ s → wpQuiet P ops C0 Q l a → wpP P ops (fun _ => C0) s Q k l a
  | [], _, _, _, h => h
  | o :: l, k, a, hs, h => by
    simp only [List.length_cons] at hs
    unfold wpQuiet at h
    unfold wpP
    split
    · rename_i hw
      rw [if_pos hw] at h
      obtain ⟨v, h1, h2⟩ := h
      refine ⟨v, ?_, wpP_of_quiet l (k + 1) _ (by omega) h2⟩
      unfold okStep
      rw [if_neg (by omega)]
      intro _ w hw'
      have h3 := h1 w hw'
      unfold Oper.quietAt at h3
      generalize (execOp a.eval o).run P w = r at *
      cases r with
      | ok n w' =>
        cases n <;> simp only [Oper.quietUpon] at h3 <;> simp only [qUpon]
        case value u => exact ⟨h3.2, h3.1 ▸ hw'⟩
        case skip => exact ⟨h3.2, h3.1 ▸ hw'⟩
        case enter f args => rw [h3.1]; exact h3.2
      | halt x w' => simp only [Oper.quietUpon] at h3
    · rename_i hw
      rw [if_neg hw] at h
      exact ⟨by omega, wpP_of_quiet l (k + 1) _ (by omega) h⟩

theorem region_quiet_tail_lit {id : Nat} {Q : Exit → Act → World → Prop} {a : Act} {w : World} {l : List Oper} (n : Nat) (hm : P.follows .mixedOrders = true) (hB : Region.lexTailB .any l.toArray n = true)
    (h : wpQuiet P l.toArray (fun w' => ∃ k, w' = w.drewN k) (fun a' => ∀ w', (∃ k, w' = w.drewN k) → wpList P l.toArray Q (l.drop n) a' w') (l.take n) a) : (Code.region id l.toArray true).wp P Q a w :=
  wp_region_any hm (any_phase (C := fun _ w' => ∃ k, w' = w.drewN k) (s := n) n hB ⟨1, rfl⟩ (wpP_of_quiet _ 0 a (by simp; omega) h))
theorem regionIn_quiet_tail_lit {l' n' id : Nat} {Q : Exit → Act → World → Prop} {a : Act} {w : World} {l : List Oper} (n : Nat) (hm : P.follows .mixedOrders = true) (hB : Region.lexTailB .any l.toArray n = true) (hnd : (l.all fun o => match o.op with | .defer _ => false | _ => true) = true)
    (h : wpQuiet P l.toArray (fun w' => ∃ k, w' = w.drewN k) (fun a' => ∀ w', (∃ k, w' = w.drewN k) → wpListIn (Fence.wide.inRound l') n' P l.toArray Q (l.drop n) a' w') (l.take n) a) : (Code.region id l.toArray true).wpIn (Fence.wide.inRound l') n' P Q a w :=
  wpIn_region_any hm (anyIn_phase (C := fun _ w' => ∃ k, w' = w.drewN k) (s := n) n hB hnd ⟨1, rfl⟩ (wpP_of_quiet _ 0 a (by simp; omega) h))
/-- the world before the s-th operation has come up, and behind it -/
def allocPh (w : World) (o : Obj) : Bool → World → Prop
  | false, w' => ∃ k, w' = w.drewN k
  | true, w' => ∃ k, w' = (w.alloc o).drewN k
theorem region_alloc_tail_lit {id : Nat} {Q : Exit → Act → World → Prop} {a : Act} {w : World} {l : List Oper} (n s : Nat) (o : Obj) (hsn : s < n) (hm : P.follows .mixedOrders = true) (hB : Region.lexTailB .any l.toArray n = true)
    (h : wpP P l.toArray (allocPh w o) s (fun a' => ∀ w', (∃ k, w' = (w.alloc o).drewN k) → wpList P l.toArray Q (l.drop n) a' w') 0 (l.take n) a) : (Code.region id l.toArray true).wp P Q a w :=
  wp_region_any hm (any_phase (C := allocPh w o) (s := s) n hB ⟨1, rfl⟩ (by rw [show decide (s < n) = true by simp [hsn]]; exact h))
theorem regionIn_alloc_tail_lit {l' n' id : Nat} {Q : Exit → Act → World → Prop} {a : Act} {w : World} {l : List Oper} (n s : Nat) (o : Obj) (hsn : s < n) (hm : P.follows .mixedOrders = true) (hB : Region.lexTailB .any l.toArray n = true) (hnd : (l.all fun o => match o.op with | .defer _ => false | _ => true) = true)
    (h : wpP P l.toArray (allocPh w o) s (fun a' => ∀ w', (∃ k, w' = (w.alloc o).drewN k) → wpListIn (Fence.wide.inRound l') n' P l.toArray Q (l.drop n) a' w') 0 (l.take n) a) : (Code.region id l.toArray true).wpIn (Fence.wide.inRound l') n' P Q a w :=
  wpIn_region_any hm (anyIn_phase (C := allocPh w o) (s := s) n hB hnd ⟨1, rfl⟩ (by rw [show decide (s < n) = true by simp [hsn]]; exact h))

/-! one operation of the head -/
theorem wpP_op {Q : Act → Prop} {k : Nat} {o : Oper} {rest : List Oper} {a : Act} (hg : o.guard = none) (v : Value) (h : okStep P C s k o a v) (hn : wpP P ops C s Q (k + 1) rest (a.put o.dst v)) : wpP P ops C s Q k (o :: rest) a := by
  unfold wpP
  rw [if_pos (by simp [Region.wanted, hg])]
  exact ⟨v, h, hn⟩
theorem wpP_nil {Q : Act → Prop} {k : Nat} {a : Act} (h : Q a) : wpP P ops C s Q k [] a := h
theorem ok_all {i : Nat} {o : Oper} {a : Act} {v : Value} (hi : i ≠ s) (hv : ∀ w, (execOp a.eval o).run P w = .ok (.value v) w) : okStep P C s i o a v := by
  unfold okStep; rw [if_neg hi]
  intro _ w hw; rw [hv]; exact ⟨rfl, hw⟩
theorem ok_call {i : Nat} {o : Oper} {a : Act} {v : Value} {f : FuncId} {args : Array Value} (hi : i ≠ s) (hv : ∀ w, (execOp a.eval o).run P w = .ok (.enter f args) w) (hc : ∀ w, Calls P f args w fun e w' => e = .returned v ∧ w = w') : okStep P C s i o a v := by
  unfold okStep; rw [if_neg hi]
  intro _ w hw; rw [hv]
  exact (hc w).mono fun e w' hh => by obtain ⟨he, rfl⟩ := hh; exact ⟨he, hw⟩
theorem allocPh_cell {w w' : World} {o : Obj} {ph : Bool} (h : allocPh w o ph w') {p : Addr} (hp : p.block < w.heap.size) : w'.cell? p = w.cell? p := by
  cases ph
  · obtain ⟨n, rfl⟩ := h; rfl
  · obtain ⟨n, rfl⟩ := h
    show (w.alloc o).cell? p = _
    exact World.cell?_alloc_lt w o p hp
theorem ok_load {w : World} {ob : Obj} {i : Nat} {o : Oper} {a : Act} {v : Value} (hi : i ≠ s) {p : Addr} (hc : w.cell? p = some v) (hv : ∀ w', w'.cell? p = some v → (execOp a.eval o).run P w' = .ok (.value v) w') : okStep P (allocPh w ob) s i o a v := by
  unfold okStep; rw [if_neg hi]
  intro _ w' hw; rw [hv w' ((allocPh_cell hw (block_lt_of_cell hc)).trans hc)]; exact ⟨rfl, hw⟩
theorem ok_make {w : World} {ob : Obj} {o : Oper} {a : Act} {v : Value} (hv : ∀ n, (execOp a.eval o).run P (w.drewN n) = .ok (.value v) ((w.alloc ob).drewN n)) : okStep P (allocPh w ob) s s o a v := by
  unfold okStep; rw [if_pos rfl]
  rintro w' ⟨n, rfl⟩; rw [hv]; exact ⟨rfl, _, rfl⟩
end
end Go.Proofs.YtplamgmmncenjaaDoorR
