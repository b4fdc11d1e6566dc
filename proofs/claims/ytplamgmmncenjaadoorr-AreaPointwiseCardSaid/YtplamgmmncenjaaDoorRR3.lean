/- Drawn regions in stages: a stretch of operations in any order, then what waits for it. No function of the program stands here. -/
import Derived.Test.YtplamgmmncenjaaDoorRR2
namespace Go.Proofs.YtplamgmmncenjaaDoorR
section
variable {P : Program} {md : Region.Mode} {ops : Array Oper} {C : Bool → World → Prop} {s : Nat}
def lexHead0 (md : Region.Mode) (ops : Array Oper) : Nat → Nat → Array Bool → Bool
  | 0, _, _ => true
  | f + 1, k, listed => (Region.ready md ops listed).contains k && Region.free md ops listed k && lexHead0 md ops f (k + 1) (listed.setIfInBounds k true)
def sink3 (md : Region.Mode) (ops : Array Oper) (m n : Nat) : Bool :=
  (List.range n).all fun i => decide (i < m) || (List.range (n + 1)).any fun j => decide (i < j) && Region.waitsFor md ops j i
def chain3 (md : Region.Mode) (ops : Array Oper) (n : Nat) : Bool :=
  (List.range ops.size).all fun t => decide (t ≤ n) || (List.range ops.size).any fun j => decide (n ≤ j) && Region.waitsFor md ops t j
def closed3 (md : Region.Mode) (ops : Array Oper) (m : Nat) : Bool :=
  (List.range m).all fun j => match ops[j]? with
    | some oj => oj.after.all fun e => !Region.binds md e || decide (e.on < m)
    | none => true
/-- the first m have come up -/
def upTo (m k : Nat) : Array Bool := Array.replicate m true ++ Array.replicate (k - m) false
theorem upTo_size {m k : Nat} (h : m ≤ k) : (upTo m k).size = k := by simp [upTo]; omega
theorem upTo_lt {m k j : Nat} (d : Bool) (h : j < m) : (upTo m k).getD j d = true := by
  simp [upTo, Array.getElem?_append, h]
theorem upTo_ge {m k j : Nat} (d : Bool) (h : m ≤ j) (hk : j < k) : (upTo m k).getD j d = false := by
  have : j - m < k - m := by omega
  simp [upTo, Array.getElem?_append, show ¬ j < m by omega, this]
theorem upTo_zero (k : Nat) : upTo 0 k = Array.replicate k false := by simp [upTo]
theorem upTo_eq {m k : Nat} {listed : Array Bool} (h : m ≤ k) (hs : listed.size = k) (h1 : ∀ j, j < m → listed.getD j false = true) (h2 : ∀ j, m ≤ j → j < k → listed.getD j true = false) : listed = upTo m k := by
  apply Array.ext
  · rw [upTo_size h, hs]
  · intro i hi hi'
    have e1 : listed.getD i false = listed[i] := by simp [hi]
    have e2 : listed.getD i true = listed[i] := by simp [hi]
    have e3 : (upTo m k).getD i false = (upTo m k)[i] := by simp [hi']
    rw [← e3]
    by_cases e : i < m
    · rw [← e1, h1 i e, upTo_lt false e]
    · rw [← e2, h2 i (by omega) (by omega), upTo_ge false (by omega) (by omega)]
theorem tail_waits3 {m n : Nat} {listed : Array Bool} (hs : sink3 md ops m n = true) (hc : chain3 md ops n = true) (hn : n < ops.size) (inv : HeadInv md ops n listed) :
    ∀ (d i : Nat), n - i = d → m ≤ i → i < n → listed.getD i true = false → ∀ t, n ≤ t → t ∉ Region.ready md ops listed := by
  intro d
  induction d using Nat.strongRecOn with
  | _ d ih =>
    intro i hd hmi hi hun t ht hr
    obtain ⟨_, ot, hot, hall⟩ := mem_ready.1 hr
    have htlt : t < ops.size := (Array.getElem?_eq_some_iff.1 hot).1
    by_cases htn : t = n
    · subst htn
      have h1 := List.all_eq_true.1 hs i (List.mem_range.2 hi)
      rw [Bool.or_eq_true, decide_eq_true_eq] at h1
      rcases h1 with h1 | h1
      · omega
      obtain ⟨j, hj, hj2⟩ := List.any_eq_true.1 h1
      simp only [Bool.and_eq_true, decide_eq_true_eq] at hj2
      obtain ⟨oj, hoj, e, he, hb, hon⟩ := Region.waitsFor_spec hj2.2
      have hjle : j ≤ t := by have := List.mem_range.1 hj; omega
      by_cases hjt : j = t
      · subst hjt
        have : oj = ot := Option.some.inj (hoj.symm.trans hot)
        subst this
        have h2 := hall e he hb
        rw [hon, getD_both hun] at h2
        cases h2
      · cases hl : listed.getD j false with
        | true =>
          have h2 := inv.closed j oj hoj hl e he hb
          rw [hon, getD_both hun] at h2
          cases h2
        | false =>
          have hjs : j < listed.size := by rw [inv.size]; omega
          exact ih (t - j) (by omega) j rfl (by omega) (by omega) (getD_in hjs hl) t (Nat.le_refl _) hr
    · have h1 := List.all_eq_true.1 hc t (List.mem_range.2 htlt)
      rw [Bool.or_eq_true, decide_eq_true_eq] at h1
      rcases h1 with h1 | h1
      · omega
      · obtain ⟨j, hj, hj2⟩ := List.any_eq_true.1 h1
        simp only [Bool.and_eq_true, decide_eq_true_eq] at hj2
        obtain ⟨o', ho', e, he, hb, hon⟩ := Region.waitsFor_spec hj2.2
        have : o' = ot := Option.some.inj (ho'.symm.trans hot)
        subst this
        have h2 := hall e he hb
        rw [hon, getD_both (inv.tail j hj2.1 (List.mem_range.1 hj))] at h2
        cases h2
theorem anyP_first3 {m n i : Nat} {oi : Oper} {v : Value} {L : Array Bool → Act → Prop} (hi : ops[i]? = some oi) (hsel : ∀ (j : Nat) (o : Oper) cs b, ops[j]? = some o → o.op ≠ .select cs b)
    (hs : sink3 md ops m n = true) (hc : chain3 md ops n = true) (hn : n < ops.size) (him : m ≤ i) (hin : i < n)
    (hdone : ∀ listed a, L listed a → ∀ j ∈ Region.ready md ops listed, n ≤ j) :
    ∀ (f : Nat) (listed : Array Bool) (a : Act), HeadInv md ops n listed →
      (∀ j oj, ops[j]? = some oj → j ≠ i → listed.getD j true = false → (∀ e ∈ oj.after, Region.binds md e = true → e.on ≠ i) → oi.apart ops oj = true) →
      i ∈ Region.ready md ops listed → YieldsP P ops C s i oi v a →
      anyP P md ops C s n L f (listed.setIfInBounds i true) (a.put oi.dst v) → anyP P md ops C s n L (f + 1) listed a := by
  intro f
  induction f with
  | zero =>
    intro listed a inv _ hr hy H
    refine ⟨fun h => (by rw [h] at hr; cases hr), fun j hj => ?_⟩
    have hjn : j < n := (Nat.lt_or_ge j n).resolve_right fun h => tail_waits3 hs hc hn inv _ i rfl him hin (ready_un hr) j h hj
    refine ⟨hjn, ?_⟩
    by_cases hji : j = i
    · subst hji; exact hy.pOp hi H
    · have := hdone _ _ H j (ready_mono hj hji); omega
  | succ f ih =>
    intro listed a inv hfree hr hy H
    have hun := ready_un hr
    refine ⟨fun h => (by rw [h] at hr; cases hr), fun j hj => ?_⟩
    have hjn : j < n := (Nat.lt_or_ge j n).resolve_right fun h => tail_waits3 hs hc hn inv _ i rfl him hin hun j h hj
    refine ⟨hjn, ?_⟩
    by_cases hji : j = i
    · subst hji; exact hy.pOp hi H
    · obtain ⟨hjun, oj, hoj, hall⟩ := mem_ready.1 hj
      have hnot : ∀ e ∈ oj.after, Region.binds md e = true → e.on ≠ i := fun e he hb heq => by
        have h1 := hall e he hb
        rw [heq, getD_both hun] at h1
        cases h1
      have h2 := pOp_put hoj (hfree j oj hoj hji hjun hnot) (fun cs b => hsel i oi cs b hi) (fun cs b => hsel j oj cs b hoj) hy (H.2 j (ready_mono hj hji)).2
      refine pOp_mono (fun a' h3 => ih (listed.setIfInBounds j true) a' (inv.set hj hjn) ?_ (ready_mono hr (Ne.symm hji)) h3.1 ?_) h2
      · intro k ok hk hki hunk hno
        refine hfree k ok hk hki ?_ hno
        by_cases hjk : j = k
        · subst hjk; exact hjun
        · rw [getD_set_ne true hjk] at hunk; exact hunk
      · rw [Array.setIfInBounds_comm _ _ hji]; exact h3.2
theorem anyP_lex3 {m n : Nat} {Lq : Act → Prop} (hsel : Region.noSelect ops = true) (hs : sink3 md ops m n = true) (hc : chain3 md ops n = true) (hn : n < ops.size) :
    ∀ (l : List Oper) (k : Nat) (listed : Array Bool) (a : Act), (∀ j, j < l.length → l[j]? = ops[k + j]?) → m ≤ k → k + l.length = n → HeadInv md ops n listed → (∀ j, j < k → listed.getD j false = true) →
    lexHead0 md ops l.length k listed = true → wpP P ops C s Lq k l a →
    anyP P md ops C s n (fun listed' a' => (∀ j, j < n → listed'.getD j false = true) ∧ HeadInv md ops n listed' ∧ Lq a') l.length listed a
  | [], k, listed, a, _, _, hk, inv, hli, _, h => by
    have : k = n := by simpa using hk
    subst this
    exact ⟨hli, inv, h⟩
  | o :: l, k, listed, a, hl, hmk, hk, inv, hli, hB, h => by
    have h0 : ops[k]? = some o := by simpa using (hl 0 (by simp)).symm
    simp only [List.length_cons, lexHead0, Bool.and_eq_true] at hB
    obtain ⟨⟨hr, hf⟩, hB'⟩ := hB
    have hkn : k < n := by simp only [List.length_cons] at hk; omega
    have hr' : k ∈ Region.ready md ops listed := by simpa using hr
    have hst : pOp P ops C s k (wpP P ops C s Lq (k + 1) l) a := by unfold pOp; simp only [h0]; exact h
    obtain ⟨v, hy, hK⟩ := yieldsP_of_pOp h0 hst
    refine anyP_first3 h0 (Region.noSelect_spec hsel) hs hc hn hmk hkn (fun listed' a' hL j hj => (Nat.lt_or_ge j n).resolve_left fun hlt => by
      have h1 := ready_un hj
      have := hL.1 j hlt
      rw [getD_both h1] at this; cases this) l.length listed a inv (Region.free_spec h0 hf) hr' hy
      (anyP_lex3 hsel hs hc hn l (k + 1) _ _ (fun j hj => by have := hl (j + 1) (by simp; omega); simpa [Nat.add_assoc, Nat.add_comm 1 j] using this) (by omega) (by simp only [List.length_cons] at hk; omega) (inv.set hr' hkn) ?_ hB' hK)
    intro j hj
    by_cases e : j = k
    · subst e; have := ready_lt hr'; simp [this]
    · rw [getD_set_ne false (by omega)]; exact hli j (by omega)
def seg3 (md : Region.Mode) (ops : Array Oper) (m n : Nat) : Bool :=
  Region.noSelect ops && decide (m ≤ n ∧ n < ops.size) && sink3 md ops m n && chain3 md ops n && closed3 md ops m && lexHead0 md ops (n - m) m (upTo m ops.size)
/-- the operations from m to n in whatever order -/
theorem any_seg {Q : Exit → Act → World → Prop} {a : Act} {w : World} {l : List Oper} (m n g : Nat) {f : Nat} (hf : f = n - m + g) (hB : seg3 .any l.toArray m n = true) (hms : m ≤ s) (hC : C false w)
    (h : wpP P l.toArray C s (fun a' => ∀ w', C (decide (s < n)) w' → wpAny P .any l.toArray Q g (upTo n l.length) a' w') m ((l.drop m).take (n - m)) a) : wpAny P .any l.toArray Q f (upTo m l.length) a w := by
  subst hf
  simp only [seg3, Bool.and_eq_true, decide_eq_true_eq] at hB
  obtain ⟨⟨⟨⟨⟨hsel, hmn, hn⟩, hs⟩, hc⟩, hcl⟩, hlex⟩ := hB
  have hn' : n < l.length := by simpa using hn
  have hsz : l.toArray.size = l.length := by simp
  have htl : ((l.drop m).take (n - m)).length = n - m := by simp; omega
  have inv0 : HeadInv .any l.toArray n (upTo m l.length) := by
    refine ⟨by rw [upTo_size (by omega)]; simp, fun j oj hj hl e he hb => ?_, fun t ht htl => upTo_ge true (by omega) (by simpa using htl)⟩
    have hjm : j < m := by
      refine (Nat.lt_or_ge j m).resolve_right fun h => ?_
      rcases Nat.lt_or_ge j l.length with h1 | h1
      · rw [upTo_ge false h h1] at hl; cases hl
      · simp [h1] at hj
    have h1 := List.all_eq_true.1 hcl j (List.mem_range.2 hjm)
    simp only [hj] at h1
    have h2 := (Array.all_eq_true'.1 h1) e he
    rw [hb] at h2
    simp only [Bool.not_true, Bool.false_or, decide_eq_true_eq] at h2
    exact upTo_lt false h2
  have H := anyP_lex3 (C := C) (s := s) (md := .any) (m := m) hsel hs hc hn ((l.drop m).take (n - m)) m (upTo m l.length) a (fun j hj => by
    have hj' : j < n - m := by rw [htl] at hj; exact hj
    simp [hj']) (Nat.le_refl _) (by rw [htl]; omega) inv0 (fun j hj => upTo_lt false hj) (by rw [htl, ← hsz]; exact hlex) h
  have := any_of_headP (C := C) (s := s) (Q' := Q) (g := g) (fun listed a' w' hw' hL => by
    have he : listed = upTo n l.length := upTo_eq (by omega) (by rw [hL.2.1.size, hsz]) hL.1 (fun j h1 h2 => hL.2.1.tail j h1 (by rw [hsz]; exact h2))
    have hph : listed.getD s false = decide (s < n) := by
      rw [he]
      by_cases e : s < n
      · rw [upTo_lt false e]; simp [e]
      · rcases Nat.lt_or_ge s l.length with h1 | h1
        · rw [upTo_ge false (by omega) h1]; simp [e]
        · have : (upTo n l.length).size ≤ s := by rw [upTo_size (by omega)]; exact h1
          simp [Array.getElem?_eq_none this, e]
    unfold atPh at hw'
    rw [hph] at hw'
    rw [he]
    exact hL.2.2 w' hw') _ _ _ w (by
      unfold atPh
      have : (upTo m l.length).getD s false = false := by
        rcases Nat.lt_or_ge s l.length with h1 | h1
        · exact upTo_ge false hms h1
        · have : (upTo m l.length).size ≤ s := by rw [upTo_size (by omega)]; exact h1
          simp [Array.getElem?_eq_none this]
      rw [this]; exact hC) H
  rw [htl] at this
  exact this
theorem region_seg {id : Nat} {Q : Exit → Act → World → Prop} {a : Act} {w : World} {l : List Oper} (hm : P.follows .mixedOrders = true)
    (h : wpAny P .any l.toArray Q l.length (upTo 0 l.length) a (w.drewN 1)) : (Code.region id l.toArray true).wp P Q a w :=
  wp_region_any hm (by rw [upTo_zero] at h; rw [show l.toArray.size = l.length by simp]; exact h)
/-- what is left stands in the place of the end -/
def contQ (Q : Exit → Act → World → Prop) (R : Act → World → Prop) : Exit → Act → World → Prop
  | .normal, a, w => R a w
  | e, a, w => Q e a w
theorem Oper.wp_cont {o : Oper} {a : Act} {w : World} {K K' R : Act → World → Prop} {Q : Exit → Act → World → Prop} (h : ∀ a w, K a w → K' a w)
    (hh : o.wp P a w K (contQ Q R)) : o.wp P a w K' Q := by
  unfold Oper.wp at *
  generalize (execOp a.eval o).run P w = r at *
  cases r with
  | ok n w' =>
    cases n <;> simp only [Oper.upon] at hh ⊢ <;>
      first
        | exact h _ _ hh
        | exact Calls.mono hh (fun e w'' he => by cases e <;> first | exact h _ _ he | exact he)
        | exact Rows.mono hh (fun _ _ he => h _ _ he)
  | halt x w' => cases x <;> simp only [Oper.upon] at hh ⊢ <;> exact hh
def seqN (md : Region.Mode) (ops : Array Oper) : Nat → Nat → Array Bool → Bool
  | 0, _, _ => true
  | g + 1, k, listed => decide (Region.ready md ops listed = [k]) && seqN md ops g (k + 1) (listed.setIfInBounds k true)
/-- the operations from m on, one after the other -/
theorem any_seqF {Q : Exit → Act → World → Prop} {g sz : Nat} {ops : Array Oper} : ∀ (l : List Oper) (m : Nat) (a : Act) (w : World), m + l.length ≤ sz → (∀ j, j < l.length → l[j]? = ops[m + j]?) →
    seqN md ops l.length m (upTo m sz) = true → wpList P ops (contQ Q (wpAny P md ops Q g (upTo (m + l.length) sz))) l a w → wpAny P md ops Q (l.length + g) (upTo m sz) a w
  | [], m, a, w, _, _, _, h => by
    rw [List.length_nil, Nat.zero_add]
    exact h
  | o :: l, m, a, w, hsz, hl, hB, h => by
    have h0 : ops[m]? = some o := by simpa using (hl 0 (by simp)).symm
    simp only [List.length_cons, seqN, Bool.and_eq_true, decide_eq_true_eq] at hB
    have hup : (upTo m sz).setIfInBounds m true = upTo (m + 1) sz := by
      simp only [List.length_cons] at hsz
      refine upTo_eq (by omega) (by rw [Array.size_setIfInBounds, upTo_size (by omega)]) (fun j hj => ?_) (fun j h1 h2 => ?_)
      · by_cases e : j = m
        · subst e; rw [Array.getD_eq_getD_getElem?, Array.getElem?_setIfInBounds_self, if_pos (by rw [upTo_size (by omega)]; omega)]; rfl
        · rw [getD_set_ne false (fun h => e h.symm)]; exact upTo_lt false (by omega)
      · rw [getD_set_ne true (by omega)]; exact upTo_ge true (by omega) h2
    rw [hup] at hB
    rw [List.length_cons, show l.length + 1 + g = (l.length + g) + 1 by omega]
    refine ⟨fun h1 => (by rw [hB.1] at h1; cases h1), fun i hi => ?_⟩
    rw [hB.1] at hi
    have hik : i = m := by simpa using hi
    subst hik
    rw [hup]
    have hnext : ∀ a w, wpList P ops (contQ Q (wpAny P md ops Q g (upTo (i + (o :: l).length) sz))) l a w → wpAny P md ops Q (l.length + g) (upTo (i + 1) sz) a w := fun a w h' => by
      refine any_seqF l (i + 1) a w (by simp only [List.length_cons] at hsz; omega) (fun j hj => by have := hl (j + 1) (by simp; omega); simpa [Nat.add_assoc, Nat.add_comm 1 j] using this) hB.2 ?_
      rwa [show i + 1 + l.length = i + (o :: l).length by simp only [List.length_cons]; omega]
    unfold wpOp
    simp only [h0]
    unfold wpList at h
    split at h
    · rename_i hw
      rw [if_pos hw]
      rcases h with h | h
      · exact .inl (Oper.wp_cont hnext h)
      · exact .inr h
    · rename_i hw
      rw [if_neg hw]
      exact hnext _ _ h
theorem any_seq {Q : Exit → Act → World → Prop} {l : List Oper} {a : Act} {w : World} (m n g : Nat) {f : Nat} (hf : f = n - m + g) (hn : n ≤ l.length) (hmn : m ≤ n) (hB : seqN .any l.toArray (n - m) m (upTo m l.length) = true)
    (h : wpList P l.toArray (contQ Q (wpAny P .any l.toArray Q g (upTo n l.length))) ((l.drop m).take (n - m)) a w) : wpAny P .any l.toArray Q f (upTo m l.length) a w := by
  subst hf
  have e : ((l.drop m).take (n - m)).length = n - m := by simp; omega
  have := any_seqF (P := P) (md := .any) (Q := Q) (g := g) (sz := l.length) (ops := l.toArray) ((l.drop m).take (n - m)) m a w (by rw [e]; omega) (fun j hj => by rw [e] at hj; simp [hj]) (by rw [e]; exact hB) (by rw [e, show m + (n - m) = n by omega]; exact h)
  rwa [e] at this
theorem any_end {Q : Exit → Act → World → Prop} {l : List Oper} {a : Act} {w : World} (m : Nat) {f : Nat} (hf : f = l.length - m) (hB : Region.seqB .any l.toArray (l.length - m) m (upTo m l.length) = true)
    (h : wpList P l.toArray Q (l.drop m) a w) : wpAny P .any l.toArray Q f (upTo m l.length) a w := by
  subst hf
  have := wpAny_of_seq (md := .any) (Q' := Q) (l.drop m) m (upTo m l.length) a w (fun j => by simp [List.getElem?_drop]) (by simpa using hB) h
  simpa using this
end
end Go.Proofs.YtplamgmmncenjaaDoorR
