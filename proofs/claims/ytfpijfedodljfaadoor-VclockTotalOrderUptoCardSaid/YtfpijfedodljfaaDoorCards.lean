/-
  DERIVED. GIVEN WITH THE SEED: THE CARDS: each row of YtfpijfedodljfaaDoorRows.lean that lists a variable, with what it lists TIED to the program's text (the seventh form; the later family's looks); each row that meets fmt, with fmt's text TOLD by the authors' own Lean function (tested against real Go, not proved from fmt's source: count such statements apart). THE CARD IS WHAT COUNTS. Prove the row's statement (the work); the ties are given (YtfpijfedodljfaaDoorTie.lean); close each card by the builder's one call (the guide's Derived/Test/ToyasCard.lean, 'card_holds'). Laid BY PROGRAM, IN A SANDBOX (cutbox-door.mjs). By AI agents, Wed Nov 11 2026. No macro, syntax, notation, axiom, sorry.
-/
import Derived.Test.YtfpijfedodljfaaDoorRows
import GoSem.ClaimSeven
namespace Go.Proofs.YtfpijfedodljfaaDoor
namespace Rows

/-- THE TIED CARD OF 'voussoirlaw36.VclockContains'. -/
def vclockContainsCard : Claim7 := { stood := { row := vclockContainsRow, standIns := [], harness := (true, "e6de3d5e1c0e50c213d1c2c5e1e944091ed8a0813e73fdc44a446cf3c27a9e40"), looks := false }, kinds := [], alts := [], laidByText := true, laidKinds := [.data, .data, .data], laidTests := true, laidLooks := .later }
def VclockContainsCardSaid : Prop := Claim7.holds Tryd.pinned (.plain (OpenSpec.ofChange vclockContainsSpec)) vclockContainsCard

/-- THE TIED CARD OF 'voussoirlaw36.VclockMerge'. -/
def vclockMergeCard : Claim7 := { stood := { row := vclockMergeRow, standIns := [], harness := (true, "e6de3d5e1c0e50c213d1c2c5e1e944091ed8a0813e73fdc44a446cf3c27a9e40"), looks := false }, kinds := [], alts := [], laidByText := true, laidKinds := [.data, .data, .data], laidTests := true, laidLooks := .later }
def VclockMergeCardSaid : Prop := Claim7.holds Tryd.pinned (.plain (OpenSpec.ofChange vclockMergeSpec)) vclockMergeCard

/-- THE TIED CARD OF 'voussoirlaw36.VclockPartialOrder'. -/
def vclockPartialOrderCard : Claim7 := { stood := { row := vclockPartialOrderRow, standIns := [], harness := (true, "e6de3d5e1c0e50c213d1c2c5e1e944091ed8a0813e73fdc44a446cf3c27a9e40"), looks := false }, kinds := [], alts := [], laidByText := true, laidKinds := [.data, .data, .data], laidTests := true, laidLooks := .later }
def VclockPartialOrderCardSaid : Prop := Claim7.holds Tryd.pinned (.plain (OpenSpec.ofChange vclockPartialOrderSpec)) vclockPartialOrderCard

/-- THE TIED CARD OF 'voussoirlaw36.VclockPointwise'. -/
def vclockPointwiseCard : Claim7 := { stood := { row := vclockPointwiseRow, standIns := [], harness := (true, "e6de3d5e1c0e50c213d1c2c5e1e944091ed8a0813e73fdc44a446cf3c27a9e40"), looks := false }, kinds := [], alts := [], laidByText := true, laidKinds := [.data, .data, .data], laidTests := true, laidLooks := .later }
def VclockPointwiseCardSaid : Prop := Claim7.holds Tryd.pinned (.plain (OpenSpec.ofChange vclockPointwiseSpec)) vclockPointwiseCard

/-- THE TIED CARD OF 'voussoirlaw36.VclockValidity'. -/
def vclockValidityCard : Claim7 := { stood := { row := vclockValidityRow, standIns := [], harness := (true, "e6de3d5e1c0e50c213d1c2c5e1e944091ed8a0813e73fdc44a446cf3c27a9e40"), looks := false }, kinds := [], alts := [], laidByText := true, laidKinds := [.data, .data, .data], laidTests := true, laidLooks := .later }
def VclockValidityCardSaid : Prop := Claim7.holds Tryd.pinned (.plain (OpenSpec.ofChange vclockValiditySpec)) vclockValidityCard

/-- THE TIED CARD OF 'voussoirlaw36.VclockUpperBound'. -/
def vclockUpperBoundCard : Claim7 := { stood := { row := vclockUpperBoundRow, standIns := [], harness := (true, "e6de3d5e1c0e50c213d1c2c5e1e944091ed8a0813e73fdc44a446cf3c27a9e40"), looks := false }, kinds := [], alts := [], laidByText := true, laidKinds := [.data, .data, .data], laidTests := true, laidLooks := .later }
def VclockUpperBoundCardSaid : Prop := Claim7.holds Tryd.pinned (.plain (OpenSpec.ofChange vclockUpperBoundSpec)) vclockUpperBoundCard

/-- THE TIED CARD OF 'voussoirlaw36.VclockTotalOrder'. -/
def vclockTotalOrderCard : Claim7 := { stood := { row := vclockTotalOrderRow, standIns := [], harness := (true, "e6de3d5e1c0e50c213d1c2c5e1e944091ed8a0813e73fdc44a446cf3c27a9e40"), looks := false }, kinds := [], alts := [], laidByText := true, laidKinds := [.data, .data, .data], laidTests := true, laidLooks := .later }
def VclockTotalOrderCardSaid : Prop := Claim7.holds Tryd.pinned (.plain (OpenSpec.ofChange vclockTotalOrderSpec)) vclockTotalOrderCard

/-- THE SECOND FORM's CARD OF 'voussoirlaw36.VclockContains'. -/
def vclockContainsUptoCard : Claim7 := { stood := { row := vclockContainsUptoRow, standIns := [], harness := (true, "e6de3d5e1c0e50c213d1c2c5e1e944091ed8a0813e73fdc44a446cf3c27a9e40"), looks := false }, kinds := [], alts := [], laidByText := true, laidKinds := [.data, .data, .data], laidTests := true, laidLooks := .later }
def VclockContainsUptoCardSaid : Prop := Claim7.holds Tryd.pinned (.plain (OpenSpec.upto vclockContainsSpec)) vclockContainsUptoCard

/-- THE SECOND FORM's CARD OF 'voussoirlaw36.VclockMerge'. -/
def vclockMergeUptoCard : Claim7 := { stood := { row := vclockMergeUptoRow, standIns := [], harness := (true, "e6de3d5e1c0e50c213d1c2c5e1e944091ed8a0813e73fdc44a446cf3c27a9e40"), looks := false }, kinds := [], alts := [], laidByText := true, laidKinds := [.data, .data, .data], laidTests := true, laidLooks := .later }
def VclockMergeUptoCardSaid : Prop := Claim7.holds Tryd.pinned (.plain (OpenSpec.upto vclockMergeSpec)) vclockMergeUptoCard

/-- THE SECOND FORM's CARD OF 'voussoirlaw36.VclockPartialOrder'. -/
def vclockPartialOrderUptoCard : Claim7 := { stood := { row := vclockPartialOrderUptoRow, standIns := [], harness := (true, "e6de3d5e1c0e50c213d1c2c5e1e944091ed8a0813e73fdc44a446cf3c27a9e40"), looks := false }, kinds := [], alts := [], laidByText := true, laidKinds := [.data, .data, .data], laidTests := true, laidLooks := .later }
def VclockPartialOrderUptoCardSaid : Prop := Claim7.holds Tryd.pinned (.plain (OpenSpec.upto vclockPartialOrderSpec)) vclockPartialOrderUptoCard

/-- THE SECOND FORM's CARD OF 'voussoirlaw36.VclockPointwise'. -/
def vclockPointwiseUptoCard : Claim7 := { stood := { row := vclockPointwiseUptoRow, standIns := [], harness := (true, "e6de3d5e1c0e50c213d1c2c5e1e944091ed8a0813e73fdc44a446cf3c27a9e40"), looks := false }, kinds := [], alts := [], laidByText := true, laidKinds := [.data, .data, .data], laidTests := true, laidLooks := .later }
def VclockPointwiseUptoCardSaid : Prop := Claim7.holds Tryd.pinned (.plain (OpenSpec.upto vclockPointwiseSpec)) vclockPointwiseUptoCard

/-- THE SECOND FORM's CARD OF 'voussoirlaw36.VclockValidity'. -/
def vclockValidityUptoCard : Claim7 := { stood := { row := vclockValidityUptoRow, standIns := [], harness := (true, "e6de3d5e1c0e50c213d1c2c5e1e944091ed8a0813e73fdc44a446cf3c27a9e40"), looks := false }, kinds := [], alts := [], laidByText := true, laidKinds := [.data, .data, .data], laidTests := true, laidLooks := .later }
def VclockValidityUptoCardSaid : Prop := Claim7.holds Tryd.pinned (.plain (OpenSpec.upto vclockValiditySpec)) vclockValidityUptoCard

/-- THE SECOND FORM's CARD OF 'voussoirlaw36.VclockUpperBound'. -/
def vclockUpperBoundUptoCard : Claim7 := { stood := { row := vclockUpperBoundUptoRow, standIns := [], harness := (true, "e6de3d5e1c0e50c213d1c2c5e1e944091ed8a0813e73fdc44a446cf3c27a9e40"), looks := false }, kinds := [], alts := [], laidByText := true, laidKinds := [.data, .data, .data], laidTests := true, laidLooks := .later }
def VclockUpperBoundUptoCardSaid : Prop := Claim7.holds Tryd.pinned (.plain (OpenSpec.upto vclockUpperBoundSpec)) vclockUpperBoundUptoCard

/-- THE SECOND FORM's CARD OF 'voussoirlaw36.VclockTotalOrder'. -/
def vclockTotalOrderUptoCard : Claim7 := { stood := { row := vclockTotalOrderUptoRow, standIns := [], harness := (true, "e6de3d5e1c0e50c213d1c2c5e1e944091ed8a0813e73fdc44a446cf3c27a9e40"), looks := false }, kinds := [], alts := [], laidByText := true, laidKinds := [.data, .data, .data], laidTests := true, laidLooks := .later }
def VclockTotalOrderUptoCardSaid : Prop := Claim7.holds Tryd.pinned (.plain (OpenSpec.upto vclockTotalOrderSpec)) vclockTotalOrderUptoCard
end Rows
end Go.Proofs.YtfpijfedodljfaaDoor
