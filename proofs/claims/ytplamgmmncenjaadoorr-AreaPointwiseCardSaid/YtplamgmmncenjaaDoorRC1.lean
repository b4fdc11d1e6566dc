/- From the row's condition to what the walks ask: the table stands; a slice of four numbers each reads as a list. -/
import Derived.Test.YtplamgmmncenjaaDoorRW17
import Derived.Test.YtplamgmmncenjaaDoorRTie
import Derived.ProofKit
import Derived.Handy
import Derived.Lay
import Derived.SevenTiedAt
import Derived.Lib.LaidTab
import Derived.Lib.LaidU8
namespace Go.Proofs.YtplamgmmncenjaaDoorR
open Go.ChangeShapes Go.WideShapes Go.ChangeAt Go.RowKit
theorem own : ownKnob Tryd.prog.godebug = none := by kernel_rfl
theorem laidOut : laidOutB Tryd.prog = true := by kernel_rfl
def theLaid : List (String × DataW Unit) := [("math/bits.deBruijn64tab", Rows.laid_math_bits_deBruijn64tab)]
theorem hasTab_of {W : World} (hL : laidMetH Tryd.prog theLaid W) : HasTab W := by
  rw [MakeChecks.laidMetH_plain _ _ _ (by kernel_rfl)] at hL
  have hL' : laidMet Tryd.prog [("math/bits.deBruijn64tab", Lib.tabData .u8 (tabL.map fun (n : Nat) => (n : Int)))] W := hL
  have hg : Tryd.prog.globalNamed "math/bits.deBruijn64tab" = some 0 := by kernel_rfl
  have hT := Lib.tabIs_of_head hg (t := 82) (e := 5) (n := 64) (by kernel_rfl) (by kernel_rfl) (by kernel_rfl) (by kernel_rfl) (by kernel_rfl) hL'
  intro i hi
  have hlen : (tabL.map fun (n : Nat) => (n : Int)).length = 64 := by rw [List.length_map]; rfl
  have := hT.cell hg i (by rw [hlen]; exact hi)
  rw [this]
  have hi' : i < tabL.length := hi
  simp [List.getD, hi']
/-- the number in a cell -/
def numAt (W : World) (a : Addr) (k : Nat) : Int := match W.cell? (a.add k) with | some (.int _ n) => n | _ => 0
theorem open_quads {H : Type} {enc : TypeId × Value → H} {W : World} {v : Value} {d : DataW H} {p : List MemPlace} {base : Nat} (hval : Value.okWide Tryd.prog W .any base 22 v)
    (h : DataW.Trod enc Tryd.prog W 0 (fun _ => true) true 22 v d p) : ∃ x, SlR W v x ∧ xok x := by
  obtain ⟨fuel, h⟩ := h
  obtain ⟨a0, len0, cap0, rfl⟩ := okWide_slice Tryd.underlying22 hval
  rcases Deep.open_slice Tryd.underlying22 h with ⟨e, _⟩ | ⟨a, len, cap, m, n, D, Pl, e, _, hl, hm, hme, _, each⟩
  · have e' : (Value.slice a0 len0 cap0) = .slice none 0 0 := by simpa [Value.cells] using e
    rw [e']
    exact ⟨[], Sl.nil _ _, fun k hk => by simp at hk⟩
  · have e' : (Value.slice a0 len0 cap0) = .slice (some a) len cap := by simpa [Value.cells] using e
    rw [e']
    simp only [if_true] at hme
    subst hme
    have c4 : Tryd.prog.cellsOf 56 = 4 := by kernel_rfl
    have c1 : Tryd.prog.cellsOf 3 = 1 := by kernel_rfl
    rw [c4] at each
    have key : ∀ i j, i < len → j < 4 → W.cell? ((a.add (i * 4)).add j) = some (.int .i64 (match W.cell? ((a.add (i * 4)).add j) with | some (.int _ n) => n | _ => 0)) ∧ isInt (match W.cell? ((a.add (i * 4)).add j) with | some (.int _ n) => n | _ => 0) := by
      intro i j hi hj
      obtain ⟨cs', h1, h2⟩ := each i (by omega)
      obtain ⟨hb, hlen, hc⟩ := World.cells?_some h1
      obtain ⟨xs, f, _, _, hcl, hxl, hx⟩ := DataW.trod_array (show Tryd.prog.underlying 56 = some (.array 4 3) by kernel_rfl) h2
      have h3 := hx j hj
      rw [c1, Nat.mul_one] at h3
      have hxj : xs[j]? = some xs[j] := List.getElem?_eq_getElem (by omega)
      rw [hxj] at h3
      obtain ⟨z, hz, _, hwf⟩ := DataW.trod_int (show Tryd.prog.underlying 3 = some (.int .i64) by kernel_rfl) h3
      have h4 := hc j hj
      have h5 : cs'[j]? = some (.int .i64 z) := by
        have := congrArg (·[0]?) hz
        simpa [List.getElem?_take, List.getElem?_drop] using this
      rw [h5] at h4
      rw [h4]
      refine ⟨rfl, ?_⟩
      show isInt z
      simp [Lit.wf, IntKind.min, IntKind.max, IntKind.signed, IntKind.bits] at hwf
      exact ⟨by omega, by omega⟩
    by_cases h0 : len = 0
    · subst h0
      exact ⟨[], ⟨rfl, some a, m, rfl, by omega, hm, fun hn => absurd hn (by simp)⟩, fun k hk => by simp at hk⟩
    · obtain ⟨b, off, sp⟩ := a
      have hsp : sp = none := by
        have := (key 0 0 (by omega) (by omega)).1
        simp only [Addr.add, Nat.zero_mul, if_true] at this
        exact cell_spot this
      subst hsp
      have hadd : ∀ i j, (Addr.add ⟨b, off, none⟩ (i * 4)).add j = ⟨b, off + (i * 4 + j), none⟩ := by
        intro i j
        unfold Addr.add
        split <;> split <;> simp_all <;> omega
      let x : List Rct := (List.range len).map fun i => ⟨numAt W ⟨b, off, none⟩ (i * 4), numAt W ⟨b, off, none⟩ (i * 4 + 1), numAt W ⟨b, off, none⟩ (i * 4 + 2), numAt W ⟨b, off, none⟩ (i * 4 + 3)⟩
      have hxl : x.length = len := by simp [x]
      have hnum : ∀ k, numAt W ⟨b, off, none⟩ k = (match W.cell? ⟨b, off + k, none⟩ with | some (.int _ n) => n | _ => 0) := by
        intro k
        have e : Addr.add ⟨b, off, none⟩ k = ⟨b, off + k, none⟩ := by
          unfold Addr.add; split <;> simp_all
        unfold numAt; rw [e]
      have key2 : ∀ i j, i < len → j < 4 → W.cell? ⟨b, off + (i * 4 + j), none⟩ = some (.int .i64 (numAt W ⟨b, off, none⟩ (i * 4 + j))) ∧ isInt (numAt W ⟨b, off, none⟩ (i * 4 + j)) := by
        intro i j hi hj
        have := key i j hi hj
        rw [hadd] at this
        rw [hnum]
        exact this
      have hget : ∀ i, i < len → x.getD i default = ⟨numAt W ⟨b, off, none⟩ (i * 4), numAt W ⟨b, off, none⟩ (i * 4 + 1), numAt W ⟨b, off, none⟩ (i * 4 + 2), numAt W ⟨b, off, none⟩ (i * 4 + 3)⟩ := by
        intro i hi
        simp [x, List.getD, hi]
      refine ⟨x, ⟨cellsR_len x, some ⟨b, off, none⟩, m, by rw [hxl], by omega, hm, fun _ => ⟨b, off, rfl, ?_, fun j u hu => ?_⟩⟩, fun k hk => ?_⟩
      · have := (key2 0 0 (by omega) (by omega)).1
        exact cell_lt this
      · have hj : j < x.length * 4 := by
          have := (List.getElem?_eq_some_iff.1 hu).1
          rwa [cellsR_len] at this
        rw [hxl] at hj
        have hjd : j = (j / 4) * 4 + j % 4 := by omega
        have hi : j / 4 < len := by omega
        have hr : j % 4 < 4 := Nat.mod_lt _ (by decide)
        rw [hjd, cellsR_get x (j / 4) (j % 4) (by rw [hxl]; exact hi) hr, hget _ hi] at hu
        rw [hjd, (key2 _ _ hi hr).1]
        generalize j % 4 = r at *
        match r, hr with
        | 0, _ => simpa [encR] using hu
        | 1, _ => simpa [encR] using hu
        | 2, _ => simpa [encR] using hu
        | 3, _ => simpa [encR] using hu
      · rw [hxl] at hk
        rw [hget k hk]
        exact ⟨(key2 k 0 hk (by omega)).2, (key2 k 1 hk (by omega)).2, (key2 k 2 hk (by omega)).2, (key2 k 3 hk (by omega)).2⟩
end Go.Proofs.YtplamgmmncenjaaDoorR
