/-
  DERIVED. GIVEN WITH THE SEED: THE CARDS: each row of YtplamgmmncenjaaDoorRRows.lean that lists a variable, with what it lists TIED to the program's text (the seventh form; the later family's looks); each row that meets fmt, with fmt's text TOLD by the authors' own Lean function (tested against real Go, not proved from fmt's source: count such statements apart). THE CARD IS WHAT COUNTS. Prove the row's statement (the work); the ties are given (YtplamgmmncenjaaDoorRTie.lean); close each card by the builder's one call (the guide's Derived/Test/ToyasCard.lean, 'card_holds'). Laid BY PROGRAM, IN A SANDBOX (cutbox-door.mjs). By AI agents, Wed Nov 11 2026. No macro, syntax, notation, axiom, sorry.
-/
import Derived.Test.YtplamgmmncenjaaDoorRRows
import GoSem.ClaimSeven
namespace Go.Proofs.YtplamgmmncenjaaDoorR
namespace Rows

/-- THE TIED CARD OF 'dialtonelaw29.AreaPointwise'. -/
def areaPointwiseCard : Claim7 := { stood := { row := areaPointwiseRow, standIns := [], harness := (true, "1901670b4875ca2eb836e71ec8489fb9fe1247fb351659ecde02c8ced8ba6e33"), looks := false }, kinds := [], alts := [], laidByText := true, laidKinds := [.data], laidTests := true, laidLooks := .later }
def AreaPointwiseCardSaid : Prop := Claim7.holds Tryd.pinned (.plain (OpenSpec.ofChange areaPointwiseSpec)) areaPointwiseCard

/-- THE TIED CARD OF 'dialtonelaw29.AreaCanonical'. -/
def areaCanonicalCard : Claim7 := { stood := { row := areaCanonicalRow, standIns := [], harness := (true, "1901670b4875ca2eb836e71ec8489fb9fe1247fb351659ecde02c8ced8ba6e33"), looks := false }, kinds := [], alts := [], laidByText := true, laidKinds := [.data], laidTests := true, laidLooks := .later }
def AreaCanonicalCardSaid : Prop := Claim7.holds Tryd.pinned (.plain (OpenSpec.ofChange areaCanonicalSpec)) areaCanonicalCard

/-- THE TIED CARD OF 'dialtonelaw29.AreaSizes'. -/
def areaSizesCard : Claim7 := { stood := { row := areaSizesRow, standIns := [], harness := (true, "1901670b4875ca2eb836e71ec8489fb9fe1247fb351659ecde02c8ced8ba6e33"), looks := false }, kinds := [], alts := [], laidByText := true, laidKinds := [.data], laidTests := true, laidLooks := .later }
def AreaSizesCardSaid : Prop := Claim7.holds Tryd.pinned (.plain (OpenSpec.ofChange areaSizesSpec)) areaSizesCard

/-- THE TIED CARD OF 'dialtonelaw29.AreaSets'. -/
def areaSetsCard : Claim7 := { stood := { row := areaSetsRow, standIns := [], harness := (true, "1901670b4875ca2eb836e71ec8489fb9fe1247fb351659ecde02c8ced8ba6e33"), looks := false }, kinds := [], alts := [], laidByText := true, laidKinds := [.data], laidTests := true, laidLooks := .later }
def AreaSetsCardSaid : Prop := Claim7.holds Tryd.pinned (.plain (OpenSpec.ofChange areaSetsSpec)) areaSetsCard

/-- THE TIED CARD OF 'dialtonelaw29.AreaGrows'. -/
def areaGrowsCard : Claim7 := { stood := { row := areaGrowsRow, standIns := [], harness := (true, "1901670b4875ca2eb836e71ec8489fb9fe1247fb351659ecde02c8ced8ba6e33"), looks := false }, kinds := [], alts := [], laidByText := true, laidKinds := [.data], laidTests := true, laidLooks := .later }
def AreaGrowsCardSaid : Prop := Claim7.holds Tryd.pinned (.plain (OpenSpec.ofChange areaGrowsSpec)) areaGrowsCard

/-- THE TIED CARD OF 'dialtonelaw29.AreaWithin'. -/
def areaWithinCard : Claim7 := { stood := { row := areaWithinRow, standIns := [], harness := (true, "1901670b4875ca2eb836e71ec8489fb9fe1247fb351659ecde02c8ced8ba6e33"), looks := false }, kinds := [], alts := [], laidByText := true, laidKinds := [.data], laidTests := true, laidLooks := .later }
def AreaWithinCardSaid : Prop := Claim7.holds Tryd.pinned (.plain (OpenSpec.ofChange areaWithinSpec)) areaWithinCard

/-- THE SECOND FORM's CARD OF 'dialtonelaw29.AreaPointwise'. -/
def areaPointwiseUptoCard : Claim7 := { stood := { row := areaPointwiseUptoRow, standIns := [], harness := (true, "1901670b4875ca2eb836e71ec8489fb9fe1247fb351659ecde02c8ced8ba6e33"), looks := false }, kinds := [], alts := [], laidByText := true, laidKinds := [.data], laidTests := true, laidLooks := .later }
def AreaPointwiseUptoCardSaid : Prop := Claim7.holds Tryd.pinned (.plain (OpenSpec.upto areaPointwiseSpec)) areaPointwiseUptoCard

/-- THE SECOND FORM's CARD OF 'dialtonelaw29.AreaCanonical'. -/
def areaCanonicalUptoCard : Claim7 := { stood := { row := areaCanonicalUptoRow, standIns := [], harness := (true, "1901670b4875ca2eb836e71ec8489fb9fe1247fb351659ecde02c8ced8ba6e33"), looks := false }, kinds := [], alts := [], laidByText := true, laidKinds := [.data], laidTests := true, laidLooks := .later }
def AreaCanonicalUptoCardSaid : Prop := Claim7.holds Tryd.pinned (.plain (OpenSpec.upto areaCanonicalSpec)) areaCanonicalUptoCard

/-- THE SECOND FORM's CARD OF 'dialtonelaw29.AreaSizes'. -/
def areaSizesUptoCard : Claim7 := { stood := { row := areaSizesUptoRow, standIns := [], harness := (true, "1901670b4875ca2eb836e71ec8489fb9fe1247fb351659ecde02c8ced8ba6e33"), looks := false }, kinds := [], alts := [], laidByText := true, laidKinds := [.data], laidTests := true, laidLooks := .later }
def AreaSizesUptoCardSaid : Prop := Claim7.holds Tryd.pinned (.plain (OpenSpec.upto areaSizesSpec)) areaSizesUptoCard

/-- THE SECOND FORM's CARD OF 'dialtonelaw29.AreaSets'. -/
def areaSetsUptoCard : Claim7 := { stood := { row := areaSetsUptoRow, standIns := [], harness := (true, "1901670b4875ca2eb836e71ec8489fb9fe1247fb351659ecde02c8ced8ba6e33"), looks := false }, kinds := [], alts := [], laidByText := true, laidKinds := [.data], laidTests := true, laidLooks := .later }
def AreaSetsUptoCardSaid : Prop := Claim7.holds Tryd.pinned (.plain (OpenSpec.upto areaSetsSpec)) areaSetsUptoCard

/-- THE SECOND FORM's CARD OF 'dialtonelaw29.AreaGrows'. -/
def areaGrowsUptoCard : Claim7 := { stood := { row := areaGrowsUptoRow, standIns := [], harness := (true, "1901670b4875ca2eb836e71ec8489fb9fe1247fb351659ecde02c8ced8ba6e33"), looks := false }, kinds := [], alts := [], laidByText := true, laidKinds := [.data], laidTests := true, laidLooks := .later }
def AreaGrowsUptoCardSaid : Prop := Claim7.holds Tryd.pinned (.plain (OpenSpec.upto areaGrowsSpec)) areaGrowsUptoCard

/-- THE SECOND FORM's CARD OF 'dialtonelaw29.AreaWithin'. -/
def areaWithinUptoCard : Claim7 := { stood := { row := areaWithinUptoRow, standIns := [], harness := (true, "1901670b4875ca2eb836e71ec8489fb9fe1247fb351659ecde02c8ced8ba6e33"), looks := false }, kinds := [], alts := [], laidByText := true, laidKinds := [.data], laidTests := true, laidLooks := .later }
def AreaWithinUptoCardSaid : Prop := Claim7.holds Tryd.pinned (.plain (OpenSpec.upto areaWithinSpec)) areaWithinUptoCard
end Rows
end Go.Proofs.YtplamgmmncenjaaDoorR
