/-
  NARROWER THAN 'FOR EVERY INPUT', by the rows' own cells (each row's printed sentence says how): AreaPointwise: laid · AreaCanonical: laid · AreaSizes: laid · AreaSets: laid · AreaGrows: laid · AreaWithin: laid.
  DERIVED. THE GIVEN ROWS OF THIS SEAT. 6 by the template 'for every input the law returns true; each argument reads behind the call as it read before'; 0 by the template 'total and deterministic' (their statements: YtplamgmmncenjaaDoorRTotals.lean).
  GIVEN WITH THE SEED: the statements are not yours to turn. If you find one false, say at which input.
  Laid BY PROGRAM, IN A SANDBOX (cutbox-rows.mjs): the forced cells as the released guide's own fill.sh prints them over the translation 953652ecb26a21d7… (all of the seat's roots in one cut). By AI agents, Wed Nov 11 2026. No macro, syntax, notation, axiom, sorry.
-/
import Derived.Test.YtplamgmmncenjaaDoorRChecked
import GoSem.Claim
import GoSem.ClaimJoined
import GoSem.ClaimMapViews
import Derived.JoinedTies
import Derived.KernelRfl
namespace Go.Proofs.YtplamgmmncenjaaDoorR
/- THE CELL 'sum', in the pinned program and in every row, IS THE sha256 OF THE DUMP (.gsa) THAT YtplamgmmncenjaaDoorRProg.lean LOADS. Nothing in Lean hashes anything: it is a label: what it is worth is what the hold of that sum in a sandbox is worth. -/
noncomputable def Tryd.pinned : Pinned := { name := "ytplamgmmncenjaadoorr", sum := "953652ecb26a21d762c413a397bbe5178690a02a321b2e883cdb58856a70a40a", checked := Tryd.checked }
namespace Rows
def none {H : Type} : Left H := { results := [], args := [] }

/- WHAT THE LISTED PACKAGE-LEVEL VARIABLES READ AS WHEN THE CALL BEGINS. Each datum BY PROGRAM (the guide's laid-datum.mjs) off the statement by which the dump's own 'gosem.cut.vars' lays the variable. In a bare row this is a premise. The card (YtplamgmmncenjaaDoorRCards.lean) ties it to the program's text. -/
def laid_math_bits_deBruijn64tab {H : Type} : DataW H := .agg [.lit (.int .u8 0), .lit (.int .u8 1), .lit (.int .u8 56), .lit (.int .u8 2), .lit (.int .u8 57), .lit (.int .u8 49), .lit (.int .u8 28), .lit (.int .u8 3), .lit (.int .u8 61), .lit (.int .u8 58), .lit (.int .u8 42), .lit (.int .u8 50), .lit (.int .u8 38), .lit (.int .u8 29), .lit (.int .u8 17), .lit (.int .u8 4), .lit (.int .u8 62), .lit (.int .u8 47), .lit (.int .u8 59), .lit (.int .u8 36), .lit (.int .u8 45), .lit (.int .u8 43), .lit (.int .u8 51), .lit (.int .u8 22), .lit (.int .u8 53), .lit (.int .u8 39), .lit (.int .u8 33), .lit (.int .u8 30), .lit (.int .u8 24), .lit (.int .u8 18), .lit (.int .u8 12), .lit (.int .u8 5), .lit (.int .u8 63), .lit (.int .u8 55), .lit (.int .u8 48), .lit (.int .u8 27), .lit (.int .u8 60), .lit (.int .u8 41), .lit (.int .u8 37), .lit (.int .u8 16), .lit (.int .u8 46), .lit (.int .u8 35), .lit (.int .u8 44), .lit (.int .u8 21), .lit (.int .u8 52), .lit (.int .u8 32), .lit (.int .u8 23), .lit (.int .u8 11), .lit (.int .u8 54), .lit (.int .u8 26), .lit (.int .u8 40), .lit (.int .u8 15), .lit (.int .u8 34), .lit (.int .u8 20), .lit (.int .u8 31), .lit (.int .u8 10), .lit (.int .u8 25), .lit (.int .u8 14), .lit (.int .u8 19), .lit (.int .u8 9), .lit (.int .u8 13), .lit (.int .u8 8), .lit (.int .u8 7), .lit (.int .u8 6)]

/-- 'dialtonelaw29.AreaPointwise': WHATEVER THE INPUT: true; the input reads as it did. -/
def areaPointwiseSpec : ChangeSpec := { name := "areaPointwise", fn := fun _ => fun
  | [d1, d2, d3, d4, d5] => { results := [.lit (.bool true)], args := [d1, d2, d3, d4, d5] }
  | _ => none }
def areaPointwiseRow : OpenClaim := { program := "ytplamgmmncenjaadoorr", sum := "953652ecb26a21d762c413a397bbe5178690a02a321b2e883cdb58856a70a40a", func := "dialtone/dialtonelaw29.AreaPointwise", spec := "areaPointwise", unfollowed := true, recurses := true, named := ["math/bits.deBruijn64tab"], apart := false, laid := [("math/bits.deBruijn64tab", laid_math_bits_deBruijn64tab)] }
def AreaPointwiseSaid : Prop := areaPointwiseRow.holds Tryd.pinned (OpenSpec.ofChange areaPointwiseSpec)

/-- ITS FALSE NEIGHBOUR: 'it returns false'. Refute it at one input. -/
def areaPointwiseWrong : ChangeSpec := { name := "areaPointwise", fn := fun _ => fun
  | [d1, d2, d3, d4, d5] => { results := [.lit (.bool false)], args := [d1, d2, d3, d4, d5] }
  | _ => none }
def AreaPointwiseWrongFalsely : Prop := areaPointwiseRow.holds Tryd.pinned (OpenSpec.ofChange areaPointwiseWrong)

/-- 'dialtonelaw29.AreaCanonical': WHATEVER THE INPUT: true; the input reads as it did. -/
def areaCanonicalSpec : ChangeSpec := { name := "areaCanonical", fn := fun _ => fun
  | [d1, d2, d3, d4] => { results := [.lit (.bool true)], args := [d1, d2, d3, d4] }
  | _ => none }
def areaCanonicalRow : OpenClaim := { program := "ytplamgmmncenjaadoorr", sum := "953652ecb26a21d762c413a397bbe5178690a02a321b2e883cdb58856a70a40a", func := "dialtone/dialtonelaw29.AreaCanonical", spec := "areaCanonical", unfollowed := true, recurses := true, named := ["math/bits.deBruijn64tab"], apart := false, laid := [("math/bits.deBruijn64tab", laid_math_bits_deBruijn64tab)] }
def AreaCanonicalSaid : Prop := areaCanonicalRow.holds Tryd.pinned (OpenSpec.ofChange areaCanonicalSpec)

/-- ITS FALSE NEIGHBOUR: 'it returns false'. Refute it at one input. -/
def areaCanonicalWrong : ChangeSpec := { name := "areaCanonical", fn := fun _ => fun
  | [d1, d2, d3, d4] => { results := [.lit (.bool false)], args := [d1, d2, d3, d4] }
  | _ => none }
def AreaCanonicalWrongFalsely : Prop := areaCanonicalRow.holds Tryd.pinned (OpenSpec.ofChange areaCanonicalWrong)

/-- 'dialtonelaw29.AreaSizes': WHATEVER THE INPUT: true; the input reads as it did. -/
def areaSizesSpec : ChangeSpec := { name := "areaSizes", fn := fun _ => fun
  | [d1, d2] => { results := [.lit (.bool true)], args := [d1, d2] }
  | _ => none }
def areaSizesRow : OpenClaim := { program := "ytplamgmmncenjaadoorr", sum := "953652ecb26a21d762c413a397bbe5178690a02a321b2e883cdb58856a70a40a", func := "dialtone/dialtonelaw29.AreaSizes", spec := "areaSizes", unfollowed := true, recurses := true, named := ["math/bits.deBruijn64tab"], apart := false, laid := [("math/bits.deBruijn64tab", laid_math_bits_deBruijn64tab)] }
def AreaSizesSaid : Prop := areaSizesRow.holds Tryd.pinned (OpenSpec.ofChange areaSizesSpec)

/-- ITS FALSE NEIGHBOUR: 'it returns false'. Refute it at one input. -/
def areaSizesWrong : ChangeSpec := { name := "areaSizes", fn := fun _ => fun
  | [d1, d2] => { results := [.lit (.bool false)], args := [d1, d2] }
  | _ => none }
def AreaSizesWrongFalsely : Prop := areaSizesRow.holds Tryd.pinned (OpenSpec.ofChange areaSizesWrong)

/-- 'dialtonelaw29.AreaSets': WHATEVER THE INPUT: true; the input reads as it did. -/
def areaSetsSpec : ChangeSpec := { name := "areaSets", fn := fun _ => fun
  | [d1, d2, d3] => { results := [.lit (.bool true)], args := [d1, d2, d3] }
  | _ => none }
def areaSetsRow : OpenClaim := { program := "ytplamgmmncenjaadoorr", sum := "953652ecb26a21d762c413a397bbe5178690a02a321b2e883cdb58856a70a40a", func := "dialtone/dialtonelaw29.AreaSets", spec := "areaSets", unfollowed := true, recurses := true, named := ["math/bits.deBruijn64tab"], apart := false, laid := [("math/bits.deBruijn64tab", laid_math_bits_deBruijn64tab)] }
def AreaSetsSaid : Prop := areaSetsRow.holds Tryd.pinned (OpenSpec.ofChange areaSetsSpec)

/-- ITS FALSE NEIGHBOUR: 'it returns false'. Refute it at one input. -/
def areaSetsWrong : ChangeSpec := { name := "areaSets", fn := fun _ => fun
  | [d1, d2, d3] => { results := [.lit (.bool false)], args := [d1, d2, d3] }
  | _ => none }
def AreaSetsWrongFalsely : Prop := areaSetsRow.holds Tryd.pinned (OpenSpec.ofChange areaSetsWrong)

/-- 'dialtonelaw29.AreaGrows': WHATEVER THE INPUT: true; the input reads as it did. -/
def areaGrowsSpec : ChangeSpec := { name := "areaGrows", fn := fun _ => fun
  | [d1, d2, d3, d4] => { results := [.lit (.bool true)], args := [d1, d2, d3, d4] }
  | _ => none }
def areaGrowsRow : OpenClaim := { program := "ytplamgmmncenjaadoorr", sum := "953652ecb26a21d762c413a397bbe5178690a02a321b2e883cdb58856a70a40a", func := "dialtone/dialtonelaw29.AreaGrows", spec := "areaGrows", unfollowed := true, recurses := true, named := ["math/bits.deBruijn64tab"], apart := false, laid := [("math/bits.deBruijn64tab", laid_math_bits_deBruijn64tab)] }
def AreaGrowsSaid : Prop := areaGrowsRow.holds Tryd.pinned (OpenSpec.ofChange areaGrowsSpec)

/-- ITS FALSE NEIGHBOUR: 'it returns false'. Refute it at one input. -/
def areaGrowsWrong : ChangeSpec := { name := "areaGrows", fn := fun _ => fun
  | [d1, d2, d3, d4] => { results := [.lit (.bool false)], args := [d1, d2, d3, d4] }
  | _ => none }
def AreaGrowsWrongFalsely : Prop := areaGrowsRow.holds Tryd.pinned (OpenSpec.ofChange areaGrowsWrong)

/-- 'dialtonelaw29.AreaWithin': WHATEVER THE INPUT: true; the input reads as it did. -/
def areaWithinSpec : ChangeSpec := { name := "areaWithin", fn := fun _ => fun
  | [d1, d2, d3] => { results := [.lit (.bool true)], args := [d1, d2, d3] }
  | _ => none }
def areaWithinRow : OpenClaim := { program := "ytplamgmmncenjaadoorr", sum := "953652ecb26a21d762c413a397bbe5178690a02a321b2e883cdb58856a70a40a", func := "dialtone/dialtonelaw29.AreaWithin", spec := "areaWithin", unfollowed := true, recurses := true, named := ["math/bits.deBruijn64tab"], apart := false, laid := [("math/bits.deBruijn64tab", laid_math_bits_deBruijn64tab)] }
def AreaWithinSaid : Prop := areaWithinRow.holds Tryd.pinned (OpenSpec.ofChange areaWithinSpec)

/-- ITS FALSE NEIGHBOUR: 'it returns false'. Refute it at one input. -/
def areaWithinWrong : ChangeSpec := { name := "areaWithin", fn := fun _ => fun
  | [d1, d2, d3] => { results := [.lit (.bool false)], args := [d1, d2, d3] }
  | _ => none }
def AreaWithinWrongFalsely : Prop := areaWithinRow.holds Tryd.pinned (OpenSpec.ofChange areaWithinWrong)

/- THE SECOND FORM. 'bulk': how many values and letters a reading holds, each counted each time it is reached (what is shared counts as often as it is met; a slice's spare places count too). A statement '..UptoSaid' is the law's where the arguments, and the package variables that the reading takes, are together of bulk at most 1048576: NARROWER than '..Said'. Prove '..Said' where nothing that the law and all that it calls make is longer than what came in: it says more and counts as full. Else prove '..UptoSaid'. A law counts once. -/
mutual
def uptoBulk {H : Type} : DataW H → Nat
  | .lit (.string bytes) => bytes.length + 1
  | .lit _ => 1
  | .nil => 1
  | .ptr d => uptoBulk d + 1
  | .slice elems spare => uptoBulkAll elems + uptoBulkAll spare + 1
  | .agg parts => uptoBulkAll parts + 1
  | .iface _ d => uptoBulk d + 1
  | .map entries => uptoBulkEntries entries + 1
  | .held _ => 1
def uptoBulkAll {H : Type} : List (DataW H) → Nat
  | [] => 0
  | d :: r => uptoBulk d + uptoBulkAll r
def uptoBulkEntries {H : Type} : List (Lit × DataW H) → Nat
  | [] => 0
  | x :: r => uptoBulkEntry x + uptoBulkEntries r
def uptoBulkEntry {H : Type} : Lit × DataW H → Nat
  | (.string bytes, d) => bytes.length + uptoBulk d + 1
  | (_, d) => uptoBulk d + 1
 end
def uptoSmall : (H : Type) → List (DataW H) → Bool := fun _ ds => decide (uptoBulkAll ds ≤ 1048576)
def OpenSpec.upto (s : _root_.Go.ChangeSpec) : _root_.Go.OpenSpec := { _root_.Go.OpenSpec.ofChange s with cond := some uptoSmall }

/-- 'dialtonelaw29.AreaPointwise', WHERE WHAT IT READS IS OF BULK AT MOST 1048576: true; the input reads as it did. -/
def areaPointwiseUptoRow : OpenClaim := { program := "ytplamgmmncenjaadoorr", sum := "953652ecb26a21d762c413a397bbe5178690a02a321b2e883cdb58856a70a40a", func := "dialtone/dialtonelaw29.AreaPointwise", spec := "areaPointwise", unfollowed := true, recurses := true, named := ["math/bits.deBruijn64tab"], apart := false, laid := [("math/bits.deBruijn64tab", laid_math_bits_deBruijn64tab)], narrowed := true }
def AreaPointwiseUptoSaid : Prop := areaPointwiseUptoRow.holds Tryd.pinned (OpenSpec.upto areaPointwiseSpec)

/-- 'dialtonelaw29.AreaCanonical', WHERE WHAT IT READS IS OF BULK AT MOST 1048576: true; the input reads as it did. -/
def areaCanonicalUptoRow : OpenClaim := { program := "ytplamgmmncenjaadoorr", sum := "953652ecb26a21d762c413a397bbe5178690a02a321b2e883cdb58856a70a40a", func := "dialtone/dialtonelaw29.AreaCanonical", spec := "areaCanonical", unfollowed := true, recurses := true, named := ["math/bits.deBruijn64tab"], apart := false, laid := [("math/bits.deBruijn64tab", laid_math_bits_deBruijn64tab)], narrowed := true }
def AreaCanonicalUptoSaid : Prop := areaCanonicalUptoRow.holds Tryd.pinned (OpenSpec.upto areaCanonicalSpec)

/-- 'dialtonelaw29.AreaSizes', WHERE WHAT IT READS IS OF BULK AT MOST 1048576: true; the input reads as it did. -/
def areaSizesUptoRow : OpenClaim := { program := "ytplamgmmncenjaadoorr", sum := "953652ecb26a21d762c413a397bbe5178690a02a321b2e883cdb58856a70a40a", func := "dialtone/dialtonelaw29.AreaSizes", spec := "areaSizes", unfollowed := true, recurses := true, named := ["math/bits.deBruijn64tab"], apart := false, laid := [("math/bits.deBruijn64tab", laid_math_bits_deBruijn64tab)], narrowed := true }
def AreaSizesUptoSaid : Prop := areaSizesUptoRow.holds Tryd.pinned (OpenSpec.upto areaSizesSpec)

/-- 'dialtonelaw29.AreaSets', WHERE WHAT IT READS IS OF BULK AT MOST 1048576: true; the input reads as it did. -/
def areaSetsUptoRow : OpenClaim := { program := "ytplamgmmncenjaadoorr", sum := "953652ecb26a21d762c413a397bbe5178690a02a321b2e883cdb58856a70a40a", func := "dialtone/dialtonelaw29.AreaSets", spec := "areaSets", unfollowed := true, recurses := true, named := ["math/bits.deBruijn64tab"], apart := false, laid := [("math/bits.deBruijn64tab", laid_math_bits_deBruijn64tab)], narrowed := true }
def AreaSetsUptoSaid : Prop := areaSetsUptoRow.holds Tryd.pinned (OpenSpec.upto areaSetsSpec)

/-- 'dialtonelaw29.AreaGrows', WHERE WHAT IT READS IS OF BULK AT MOST 1048576: true; the input reads as it did. -/
def areaGrowsUptoRow : OpenClaim := { program := "ytplamgmmncenjaadoorr", sum := "953652ecb26a21d762c413a397bbe5178690a02a321b2e883cdb58856a70a40a", func := "dialtone/dialtonelaw29.AreaGrows", spec := "areaGrows", unfollowed := true, recurses := true, named := ["math/bits.deBruijn64tab"], apart := false, laid := [("math/bits.deBruijn64tab", laid_math_bits_deBruijn64tab)], narrowed := true }
def AreaGrowsUptoSaid : Prop := areaGrowsUptoRow.holds Tryd.pinned (OpenSpec.upto areaGrowsSpec)

/-- 'dialtonelaw29.AreaWithin', WHERE WHAT IT READS IS OF BULK AT MOST 1048576: true; the input reads as it did. -/
def areaWithinUptoRow : OpenClaim := { program := "ytplamgmmncenjaadoorr", sum := "953652ecb26a21d762c413a397bbe5178690a02a321b2e883cdb58856a70a40a", func := "dialtone/dialtonelaw29.AreaWithin", spec := "areaWithin", unfollowed := true, recurses := true, named := ["math/bits.deBruijn64tab"], apart := false, laid := [("math/bits.deBruijn64tab", laid_math_bits_deBruijn64tab)], narrowed := true }
def AreaWithinUptoSaid : Prop := areaWithinUptoRow.holds Tryd.pinned (OpenSpec.upto areaWithinSpec)

end Rows
end Go.Proofs.YtplamgmmncenjaaDoorR
