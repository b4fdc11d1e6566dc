/- Plain: what the laws Within, Sets, Grows and Sizes ask of areas. No program stands here. -/
import Derived.Test.YtplamgmmncenjaaDoorRP9
namespace Go.Proofs.YtplamgmmncenjaaDoorR
open Go
theorem bits_of {g h : Grd} (e : Eq64 g h) {y : Nat} (hy : y < 64) (x : Nat) : (g y).testBit x = (h y).testBit x := by rw [e y hy]
theorem or_sub {g h : Grd} (hg : g.ok) (hh : h.ok) : Eq64 (combG orN g h) h ↔ Sub g h := by
  constructor
  · intro e y x hy hx hb
    rw [← bits_of e hy, or_bit, hb]; rfl
  · intro s
    refine Eq64.of_bits (combG_ok_or hg hh) hh (fun y x hy hx => ?_)
    rw [or_bit]
    cases hb : (g y).testBit x
    · rfl
    · rw [s y x hy hx hb]; rfl
theorem and_sub {g h : Grd} (hg : g.ok) : Eq64 (combG andN g h) g ↔ Sub g h := by
  constructor
  · intro e y x hy hx hb
    have := bits_of e hy x
    rw [and_bit, hb] at this
    simpa using this
  · intro s
    refine Eq64.of_bits (combG_ok_and hg) hg (fun y x hy hx => ?_)
    rw [and_bit]
    cases hb : (g y).testBit x
    · rfl
    · rw [s y x hy hx hb]; rfl
theorem minus_sub {g h : Grd} (hg : g.ok) (hh : h.ok) : (∀ y x, y < 64 → x < 64 → (combG minusN g h y).testBit x = false) ↔ Sub g h := by
  constructor
  · intro e y x hy hx hb
    have := e y x hy hx
    rw [minus_bit hg hh, hb] at this
    simpa using this
  · intro s y x hy hx
    rw [minus_bit hg hh]
    cases hb : (g y).testBit x
    · rfl
    · rw [s y x hy hx hb]; rfl
theorem sub_trans {g h k : Grd} (s : Sub g h) (t : Sub h k) : Sub g k := fun y x hy hx hb => t y x hy hx (s y x hy hx hb)
theorem sub_both {g h : Grd} (hg : g.ok) (hh : h.ok) : Eq64 g h ↔ Sub g h ∧ Sub h g := by
  constructor
  · intro e; exact ⟨fun y x hy _ hb => by rw [← bits_of e hy]; exact hb, fun y x hy _ hb => by rw [bits_of e hy]; exact hb⟩
  · rintro ⟨s, t⟩; exact eq64_iff hg hh (fun y x hy hx => ⟨s y x hy hx, t y x hy hx⟩)
theorem sub_or_l (g h : Grd) : Sub g (combG orN g h) := fun y x _ _ hb => by rw [or_bit, hb]; rfl
theorem sub_or_r (g h : Grd) : Sub h (combG orN g h) := fun y x _ _ hb => by rw [or_bit, hb, Bool.or_true]
theorem and_sub_l (g h : Grd) : Sub (combG andN g h) g := fun y x _ _ hb => by rw [and_bit, Bool.and_eq_true] at hb; exact hb.1
theorem and_sub_r (g h : Grd) : Sub (combG andN g h) h := fun y x _ _ hb => by rw [and_bit, Bool.and_eq_true] at hb; exact hb.2
theorem sub_whole (g : Grd) : Sub g (oneG whR) := fun _ _ hy hx _ => whole_bit hy hx
theorem none_sub (g : Grd) : Sub g0 g := fun y x _ _ hb => by simp [g0] at hb
/-- AreaWithin -/
structure WithinF (a b c m u i s t : List Rct) (is ba bc ac : Bool) : Prop where
  em : combE minusN a b = 0
  lm : combL minusN a b = m
  eo : combE orN a b = 0
  ea : combE andN a b = 0
  lo : combL orN a b = u
  la : combL andN a b = i
  fo : combE orN u c = 0
  fa : combE andN u c = 0
  ko : combL orN u c = s
  ka : combL andN u c = t
  w1 : withinL a b = is
  w2 : decide (u = b) = is
  w3 : decide (i = a) = is
  w4 : is = true → m = []
  w5 : is = false → m ≠ []
  v1 : withinL i a = true
  v2 : withinL i b = true
  v3 : withinL a u = true
  v4 : withinL u s = true
  v5 : withinL i s = true
  v6 : withinL s [whR] = true
  v7 : withinL [] a = true
  x1 : withinL b a = ba
  x2 : decide (a = b) = (is && ba)
  x3 : withinL b c = bc
  x4 : withinL a c = ac
  x5 : is = true → bc = true → ac = true
theorem within_facts (x y z : List Rct) (hx : x.length ≤ 2) (hy : y.length ≤ 2) (hz : z.length ≤ 2) : ∃ m u i s t is ba bc ac, WithinF (madeL x) (madeL y) (madeL z) m u i s t is ba bc ac := by
  obtain ⟨X, Y, n, A, B, C, W⟩ := three_X x y z hx hy hz
  have M := A.minus n B
  have O := A.or n B
  have I := A.and n B
  have S := O.2.or n C
  have T := O.2.and n C
  have ga := A.ar.ok
  have gb := B.ar.ok
  have hw := A.ar.within B.ar
  have hw' := B.ar.within A.ar
  have hbc := B.ar.within C.ar
  have hac := A.ar.within C.ar
  refine ⟨_, _, _, _, _, _, _, _, _, M.1, rfl, O.1, I.1, rfl, rfl, S.1, T.1, rfl, rfl, rfl, ?_, ?_, ?_, ?_, ?_, ?_, ?_, ?_, ?_, ?_, ?_, rfl, ?_, rfl, rfl, ?_⟩
  · rw [Bool.eq_iff_iff, decide_eq_true_eq, hw, O.2.ar.iff B.ar]; exact or_sub ga gb
  · rw [Bool.eq_iff_iff, decide_eq_true_eq, hw, I.2.ar.iff A.ar]; exact and_sub ga
  · intro h; exact M.2.ar.valE.2 ((minus_sub ga gb).2 (hw.1 h))
  · intro h e
    have := hw.2 ((minus_sub ga gb).1 (M.2.ar.valE.1 e))
    rw [h] at this; cases this
  · exact I.2.ar.withinB A.ar (and_sub_l _ _)
  · exact I.2.ar.withinB B.ar (and_sub_r _ _)
  · exact A.ar.withinB O.2.ar (sub_or_l _ _)
  · exact O.2.ar.withinB S.2.ar (sub_or_l _ _)
  · exact I.2.ar.withinB S.2.ar (sub_trans (and_sub_l _ _) (sub_trans (sub_or_l _ _) (sub_or_l _ _)))
  · exact S.2.ar.withinB W.ar (sub_whole _)
  · exact Ar.nil.withinB A.ar (none_sub _)
  · rw [Bool.eq_iff_iff, decide_eq_true_eq, Bool.and_eq_true, hw, hw', A.ar.iff B.ar]; exact sub_both ga gb
  · intro h1 h2; exact hac.2 (sub_trans (hw.1 h1) (hbc.1 h2))
/-- AreaSets -/
structure SetsF (a b c ab inAB ba inBA bc inBC ac inAC s1 t1 s2 t2 s3 t3 s4 t4 s6 t6 s7 t7 s8 t8 out back one two btw : List Rct) : Prop where
  e1 : combE orN a b = 0
  f1 : combE andN a b = 0
  l1 : combL orN a b = ab
  m1 : combL andN a b = inAB
  e2 : combE orN b a = 0
  f2 : combE andN b a = 0
  l2 : combL orN b a = ba
  m2 : combL andN b a = inBA
  e3 : combE orN b c = 0
  f3 : combE andN b c = 0
  l3 : combL orN b c = bc
  m3 : combL andN b c = inBC
  e4 : combE orN a c = 0
  f4 : combE andN a c = 0
  l4 : combL orN a c = ac
  m4 : combL andN a c = inAC
  g1 : decide (ab = ba) = true
  g2 : decide (inAB = inBA) = true
  e5 : combE orN ab c = 0
  f5 : combE andN ab c = 0
  l5 : combL orN ab c = s1
  m5 : combL andN ab c = t1
  e6 : combE orN a bc = 0
  f6 : combE andN a bc = 0
  l6 : combL orN a bc = s2
  m6 : combL andN a bc = t2
  e7 : combE orN inAB c = 0
  f7 : combE andN inAB c = 0
  l7 : combL orN inAB c = s3
  m7 : combL andN inAB c = t3
  e8 : combE orN a inBC = 0
  f8 : combE andN a inBC = 0
  l8 : combL orN a inBC = s4
  m8 : combL andN a inBC = t4
  e9 : combE orN inAB inAC = 0
  f9 : combE andN inAB inAC = 0
  l9 : combL orN inAB inAC = s6
  m9 : combL andN inAB inAC = t6
  e10 : combE orN ab ac = 0
  f10 : combE andN ab ac = 0
  l10 : combL orN ab ac = s7
  m10 : combL andN ab ac = t7
  e11 : combE orN a a = 0
  f11 : combE andN a a = 0
  l11 : combL orN a a = s8
  m11 : combL andN a a = t8
  h1 : decide (s1 = s2) = true
  h2 : decide (t3 = t4) = true
  h3 : decide (t2 = s6) = true
  h4 : decide (s4 = t7) = true
  h5 : decide (s8 = a) = true
  h6 : decide (t8 = a) = true
  q1 : combE minusN [whR] a = 0
  r1 : combL minusN [whR] a = out
  q2 : combE minusN [whR] out = 0
  r2 : combL minusN [whR] out = back
  q3 : combE minusN a b = 0
  r3 : combL minusN a b = one
  q4 : combE minusN one c = 0
  r4 : combL minusN one c = two
  q5 : combE minusN a bc = 0
  r5 : combL minusN a bc = btw
  h7 : decide (back = a) = true
  h8 : decide (two = btw) = true
theorem sets_facts (x y z : List Rct) (hx : x.length ≤ 2) (hy : y.length ≤ 2) (hz : z.length ≤ 2) : ∃ ab inAB ba inBA bc inBC ac inAC s1 t1 s2 t2 s3 t3 s4 t4 s6 t6 s7 t7 s8 t8 out back one two btw, SetsF (madeL x) (madeL y) (madeL z) ab inAB ba inBA bc inBC ac inAC s1 t1 s2 t2 s3 t3 s4 t4 s6 t6 s7 t7 s8 t8 out back one two btw := by
  obtain ⟨X, Y, n, A, B, C, W⟩ := three_X x y z hx hy hz
  have ga := A.ar.ok
  have gb := B.ar.ok
  have gc := C.ar.ok
  have gw := W.ar.ok
  have o1 := A.or n B
  have a1 := A.and n B
  have o2 := B.or n A
  have a2 := B.and n A
  have o3 := B.or n C
  have a3 := B.and n C
  have o4 := A.or n C
  have a4 := A.and n C
  have o5 := o1.2.or n C
  have a5 := o1.2.and n C
  have o6 := A.or n o3.2
  have a6 := A.and n o3.2
  have o7 := a1.2.or n C
  have a7 := a1.2.and n C
  have o8 := A.or n a3.2
  have a8 := A.and n a3.2
  have o9 := a1.2.or n a4.2
  have a9 := a1.2.and n a4.2
  have o10 := o1.2.or n o4.2
  have a10 := o1.2.and n o4.2
  have o11 := A.or n A
  have a11 := A.and n A
  have m1 := W.minus n A
  have m2 := W.minus n m1.2
  have m3 := A.minus n B
  have m4 := m3.2.minus n C
  have m5 := A.minus n o3.2
  refine ⟨_, _, _, _, _, _, _, _, _, _, _, _, _, _, _, _, _, _, _, _, _, _, _, _, _, _, _,
    o1.1, a1.1, rfl, rfl, o2.1, a2.1, rfl, rfl, o3.1, a3.1, rfl, rfl, o4.1, a4.1, rfl, rfl, ?_, ?_,
    o5.1, a5.1, rfl, rfl, o6.1, a6.1, rfl, rfl, o7.1, a7.1, rfl, rfl, o8.1, a8.1, rfl, rfl, o9.1, a9.1, rfl, rfl, o10.1, a10.1, rfl, rfl, o11.1, a11.1, rfl, rfl, ?_, ?_, ?_, ?_, ?_, ?_,
    m1.1, rfl, m2.1, rfl, m3.1, rfl, m4.1, rfl, m5.1, rfl, ?_, ?_⟩
  · exact o1.2.ar.dec o2.2.ar (Eq64.of_bits o1.2.ar.ok o2.2.ar.ok fun y x _ _ => by rw [or_bit, or_bit]; exact Bool.or_comm _ _)
  · exact a1.2.ar.dec a2.2.ar (Eq64.of_bits a1.2.ar.ok a2.2.ar.ok fun y x _ _ => by rw [and_bit, and_bit]; exact Bool.and_comm _ _)
  · exact o5.2.ar.dec o6.2.ar (Eq64.of_bits o5.2.ar.ok o6.2.ar.ok fun y x _ _ => by simp only [or_bit]; exact Bool.or_assoc _ _ _)
  · exact a7.2.ar.dec a8.2.ar (Eq64.of_bits a7.2.ar.ok a8.2.ar.ok fun y x _ _ => by simp only [and_bit]; exact Bool.and_assoc _ _ _)
  · exact a6.2.ar.dec o9.2.ar (Eq64.of_bits a6.2.ar.ok o9.2.ar.ok fun y x _ _ => by simp only [and_bit, or_bit]; exact Bool.and_or_distrib_left _ _ _)
  · exact o8.2.ar.dec a10.2.ar (Eq64.of_bits o8.2.ar.ok a10.2.ar.ok fun y x _ _ => by simp only [and_bit, or_bit]; exact Bool.or_and_distrib_left _ _ _)
  · exact o11.2.ar.dec A.ar (Eq64.of_bits o11.2.ar.ok ga fun y x _ _ => by rw [or_bit, Bool.or_self])
  · exact a11.2.ar.dec A.ar (Eq64.of_bits a11.2.ar.ok ga fun y x _ _ => by rw [and_bit, Bool.and_self])
  · exact m2.2.ar.dec A.ar (Eq64.of_bits m2.2.ar.ok ga fun y x hy hx => by rw [minus_bit gw m1.2.ar.ok, minus_bit gw ga, whole_bit hy hx]; simp)
  · exact m4.2.ar.dec m5.2.ar (Eq64.of_bits m4.2.ar.ok m5.2.ar.ok fun i j _ _ => by
      rw [minus_bit m3.2.ar.ok gc, minus_bit ga gb, minus_bit ga o3.2.ar.ok, or_bit]
      generalize (madeG x i).testBit j = p
      generalize (madeG y i).testBit j = q
      generalize (madeG z i).testBit j = r
      cases p <;> cases q <;> cases r <;> rfl)
/-- two areas of at most two -/
theorem two_L (x y : List Rct) (hx : x.length ≤ 2) (hy : y.length ≤ 2) : ∃ L R Y, Y.length * L.length ≤ 32 ∧ Few L R Y (madeG x) ∧ Few L R Y (madeG y) := by
  obtain ⟨L1, R1, Y1, h1, h2, h3, h4⟩ := madeL_L x hx
  obtain ⟨L2, R2, Y2, k1, k2, k3, k4⟩ := madeL_L y hy
  refine ⟨L1 ++ L2, R1 ++ R2, Y1 ++ Y2, ?_, h4.mono (by simp +contextual) (by simp +contextual) (by simp +contextual), k4.mono (by simp +contextual) (by simp +contextual) (by simp +contextual)⟩
  rw [List.length_append, List.length_append]
  exact Nat.le_trans (Nat.mul_le_mul (show _ ≤ 8 by omega) (show _ ≤ 4 by omega)) (by decide)
/-- AreaGrows -/
structure GrowsF (a b : List Rct) (d e : Int) (one two all none whole u v w z : List Rct) : Prop where
  e1 : growE a d = 0
  l1 : growL a d = one
  e2 : growE one e = 0
  l2 : growL one e = two
  e3 : growE a (d + e) = 0
  l3 : growL a (d + e) = all
  e4 : growE a 0 = 0
  l4 : growL a 0 = none
  e5 : growE a 63 = 0
  l5 : growL a 63 = whole
  g1 : decide (two = all) = true
  g2 : decide (none = a) = true
  w1 : withinL one two = true
  w2 : withinL a one = true
  h1 : a ≠ [] → decide (whole = [whR]) = true
  h2 : a = [] → whole = []
  e6 : combE orN a b = 0
  l6 : combL orN a b = u
  e7 : growE u d = 0
  l7 : growL u d = v
  e8 : growE b d = 0
  l8 : growL b d = w
  e9 : combE orN one w = 0
  l9 : combL orN one w = z
  g3 : decide (v = z) = true
theorem grows_facts (x y : List Rct) (hx : x.length ≤ 2) (hy : y.length ≤ 2) (d e : Int) (d0 : 0 ≤ d) (d1 : d ≤ 32) (e0 : 0 ≤ e) (e1 : e ≤ 31) : ∃ one two all none whole u v w z, GrowsF (madeL x) (madeL y) d e one two all none whole u v w z := by
  obtain ⟨L, R, Y, n, fa, fb⟩ := two_L x y hx hy
  have n2 : 2 * Y.length * L.length ≤ 100 := by rw [Nat.mul_assoc]; omega
  have A : Ar (madeL x) (madeG x) := Ar.few_L fa (by omega)
  have B : Ar (madeL y) (madeG y) := Ar.few_L fb (by omega)
  have fu := fa.or fb
  have U := A.comb orN B (Ar.few_L fu (by omega))
  have One := A.grow d0 (by omega) (Ar.grow_few fa n2 d.toNat)
  have gg : Eq64 (growG (growG (madeG x) d.toNat) e.toNat) (growG (madeG x) (d + e).toNat) := by
    rw [show (d + e).toNat = d.toNat + e.toNat by omega]; exact grow_grow _ _ _
  have oall := Ar.grow_few fa n2 (d + e).toNat
  have otwo : Ar (rectsG (growG (growG (madeG x) d.toNat) e.toNat)) (growG (growG (madeG x) d.toNat) e.toNat) := ⟨growG_ok _ _, rfl, by rw [rectsG_congr gg]; exact oall.len⟩
  have Two := One.2.grow e0 (by omega) otwo
  have All := A.grow (d := d + e) (by omega) (by omega) oall
  have None := A.grow (d := 0) (by omega) (by omega) (Ar.grow_few fa n2 _)
  have Who := A.grow (d := 63) (by omega) (by omega) (Ar.grow_few fa n2 _)
  have V := U.2.grow d0 (by omega) (Ar.grow_few fu n2 d.toNat)
  have W := B.grow d0 (by omega) (Ar.grow_few fb n2 d.toNat)
  have fz := (fa.grow d.toNat).or (fb.grow d.toNat)
  have Z := One.2.comb orN W.2 (Ar.few_L fz (by
    rw [List.length_append, List.length_map, List.length_map, List.length_map]
    exact Nat.le_trans (Nat.mul_le_mul_right _ (show Y.length + Y.length ≤ 2 * Y.length by omega)) n2))
  refine ⟨_, _, _, _, _, _, _, _, _, One.1, rfl, Two.1, rfl, All.1, rfl, None.1, rfl, Who.1, rfl, ?_, ?_, ?_, ?_, ?_, ?_, U.1, rfl, V.1, rfl, W.1, rfl, Z.1, rfl, ?_⟩
  · exact Two.2.dec All.2 gg
  · exact None.2.dec A (grow_zero A.ok)
  · exact One.2.withinB Two.2 (sub_grow _ _)
  · exact A.withinB One.2 (sub_grow _ _)
  · intro h; exact Who.2.dec Ar.whole (grow_whole A h)
  · intro h
    refine (Who.2.iff Ar.nil).2 ((grow_congr ?_ _).trans grow_none)
    exact (A.iff Ar.nil).1 h
  · exact V.2.dec Z.2 (grow_or _)
/-- one area of the law AreaSizes -/
structure SizeF (l : List Rct) : Prop where
  ok : allOk l = true
  len : l.length ≤ 100
  sum : sumL l = (sizeL l : Int)
  cut : ∀ i j, i < l.length → j < i → ¬ (max (l.getD i default).l (l.getD j default).l < min (l.getD i default).r (l.getD j default).r ∧ max (l.getD i default).lo (l.getD j default).lo < min (l.getD i default).hi (l.getD j default).hi)
theorem Ar.sizeF {a : List Rct} {g : Grd} (k : Ar a g) : SizeF a := ⟨k.allOk, k.len100, by rw [k.sum, k.size], fun _ _ hi hj => k.cut hi hj⟩
structure SizesF (a b u c m : List Rct) : Prop where
  eo : combE orN a b = 0
  lo : combL orN a b = u
  ea : combE andN a b = 0
  la : combL andN a b = c
  em : combE minusN a b = 0
  lm : combL minusN a b = m
  s1 : (sizeL u : Int) + sizeL c = (sizeL a : Int) + sizeL b
  s2 : (sizeL m : Int) = (sizeL a : Int) - sizeL c
  fa : SizeF a
  fb : SizeF b
  fu : SizeF u
  fc : SizeF c
  fm : SizeF m
theorem sizeL_le (l : List Rct) : sizeL l ≤ 4096 := popSum_le _ 64
theorem size_whole : (sizeL [whR] : Int) = 4096 := by rw [Ar.whole.size, sum_whole]; rfl
theorem sizes_facts (x y : List Rct) (hx : x.length ≤ 3) (hy : y.length ≤ 3) : ∃ u c m, SizesF (madeL x) (madeL y) u c m := by
  obtain ⟨X, Y, n, A, B⟩ := two_X x y hx hy
  have O := A.or n B
  have C := A.and n B
  have M := A.minus n B
  have h1 := sum_or_and (madeG x) (madeG y) 64
  have h2 := sum_minus A.ar.ok B.ar.ok 64
  refine ⟨_, _, _, O.1, rfl, C.1, rfl, M.1, rfl, ?_, ?_, A.ar.sizeF, B.ar.sizeF, O.2.ar.sizeF, C.2.ar.sizeF, M.2.ar.sizeF⟩
  · rw [O.2.ar.size, C.2.ar.size, A.ar.size, B.ar.size]; omega
  · rw [M.2.ar.size, C.2.ar.size, A.ar.size]; omega
end Go.Proofs.YtplamgmmncenjaaDoorR
