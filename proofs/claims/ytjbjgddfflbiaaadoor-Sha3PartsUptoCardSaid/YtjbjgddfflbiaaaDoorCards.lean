/-
  DERIVED. GIVEN WITH THE SEED: THE CARDS: each row of YtjbjgddfflbiaaaDoorRows.lean that lists a variable, with what it lists TIED to the program's text (the seventh form; the later family's looks); each row that meets fmt, with fmt's text TOLD by the authors' own Lean function (tested against real Go, not proved from fmt's source: count such statements apart). THE CARD IS WHAT COUNTS. Prove the row's statement (the work); the ties are given (YtjbjgddfflbiaaaDoorTie.lean); close each card by the builder's one call (the guide's Derived/Test/ToyasCard.lean, 'card_holds'). Laid BY PROGRAM, IN A SANDBOX (cutbox-door.mjs). By AI agents, Wed Nov 11 2026. No macro, syntax, notation, axiom, sorry.
-/
import Derived.Test.YtjbjgddfflbiaaaDoorRows
import GoSem.ClaimSeven
namespace Go.Proofs.YtjbjgddfflbiaaaDoor
namespace Rows

/-- THE TIED CARD OF 'voussoirlaw33.Sha3Digest'. -/
def sha3DigestCard : Claim7 := { stood := { row := sha3DigestRow, standIns := [], harness := (true, "bcbe4df4a59ec0718b87b058d5cf7a0b5e1dc298ba2ea1bbe8bf46faf1c4fae9"), looks := false }, kinds := [], alts := [], laidByText := true, laidKinds := [.data], laidTests := true, laidLooks := .later }
def Sha3DigestCardSaid : Prop := Claim7.holds Tryd.pinned (.plain (OpenSpec.ofChange sha3DigestSpec)) sha3DigestCard

/-- THE TIED CARD OF 'voussoirlaw33.Sha3Parts'. -/
def sha3PartsCard : Claim7 := { stood := { row := sha3PartsRow, standIns := [], harness := (true, "bcbe4df4a59ec0718b87b058d5cf7a0b5e1dc298ba2ea1bbe8bf46faf1c4fae9"), looks := false }, kinds := [], alts := [], laidByText := true, laidKinds := [.data], laidTests := true, laidLooks := .later }
def Sha3PartsCardSaid : Prop := Claim7.holds Tryd.pinned (.plain (OpenSpec.ofChange sha3PartsSpec)) sha3PartsCard

/-- THE TIED CARD OF 'voussoirlaw33.Sha3BlockBoundaries'. -/
def sha3BlockBoundariesCard : Claim7 := { stood := { row := sha3BlockBoundariesRow, standIns := [], harness := (true, "bcbe4df4a59ec0718b87b058d5cf7a0b5e1dc298ba2ea1bbe8bf46faf1c4fae9"), looks := false }, kinds := [], alts := [], laidByText := true, laidKinds := [.data], laidTests := true, laidLooks := .later }
def Sha3BlockBoundariesCardSaid : Prop := Claim7.holds Tryd.pinned (.plain (OpenSpec.ofChange sha3BlockBoundariesSpec)) sha3BlockBoundariesCard

/-- THE TIED CARD OF 'voussoirlaw33.Sha3Hex'. -/
def sha3HexCard : Claim7 := { stood := { row := sha3HexRow, standIns := [], harness := (true, "bcbe4df4a59ec0718b87b058d5cf7a0b5e1dc298ba2ea1bbe8bf46faf1c4fae9"), looks := false }, kinds := [], alts := [], laidByText := true, laidKinds := [.data], laidTests := true, laidLooks := .later }
def Sha3HexCardSaid : Prop := Claim7.holds Tryd.pinned (.plain (OpenSpec.ofChange sha3HexSpec)) sha3HexCard

/-- THE TIED CARD OF 'voussoirlaw33.Sha3Padding'. -/
def sha3PaddingCard : Claim7 := { stood := { row := sha3PaddingRow, standIns := [], harness := (true, "bcbe4df4a59ec0718b87b058d5cf7a0b5e1dc298ba2ea1bbe8bf46faf1c4fae9"), looks := false }, kinds := [], alts := [], laidByText := true, laidKinds := [.data], laidTests := true, laidLooks := .later }
def Sha3PaddingCardSaid : Prop := Claim7.holds Tryd.pinned (.plain (OpenSpec.ofChange sha3PaddingSpec)) sha3PaddingCard

/-- THE TIED CARD OF 'voussoirlaw33.Sha3HexDigits'. -/
def sha3HexDigitsCard : Claim7 := { stood := { row := sha3HexDigitsRow, standIns := [], harness := (true, "bcbe4df4a59ec0718b87b058d5cf7a0b5e1dc298ba2ea1bbe8bf46faf1c4fae9"), looks := false }, kinds := [], alts := [], laidByText := true, laidKinds := [.data], laidTests := true, laidLooks := .later }
def Sha3HexDigitsCardSaid : Prop := Claim7.holds Tryd.pinned (.plain (OpenSpec.ofChange sha3HexDigitsSpec)) sha3HexDigitsCard

/-- THE SECOND FORM's CARD OF 'voussoirlaw33.Sha3Digest'. -/
def sha3DigestUptoCard : Claim7 := { stood := { row := sha3DigestUptoRow, standIns := [], harness := (true, "bcbe4df4a59ec0718b87b058d5cf7a0b5e1dc298ba2ea1bbe8bf46faf1c4fae9"), looks := false }, kinds := [], alts := [], laidByText := true, laidKinds := [.data], laidTests := true, laidLooks := .later }
def Sha3DigestUptoCardSaid : Prop := Claim7.holds Tryd.pinned (.plain (OpenSpec.upto sha3DigestSpec)) sha3DigestUptoCard

/-- THE SECOND FORM's CARD OF 'voussoirlaw33.Sha3Parts'. -/
def sha3PartsUptoCard : Claim7 := { stood := { row := sha3PartsUptoRow, standIns := [], harness := (true, "bcbe4df4a59ec0718b87b058d5cf7a0b5e1dc298ba2ea1bbe8bf46faf1c4fae9"), looks := false }, kinds := [], alts := [], laidByText := true, laidKinds := [.data], laidTests := true, laidLooks := .later }
def Sha3PartsUptoCardSaid : Prop := Claim7.holds Tryd.pinned (.plain (OpenSpec.upto sha3PartsSpec)) sha3PartsUptoCard

/-- THE SECOND FORM's CARD OF 'voussoirlaw33.Sha3BlockBoundaries'. -/
def sha3BlockBoundariesUptoCard : Claim7 := { stood := { row := sha3BlockBoundariesUptoRow, standIns := [], harness := (true, "bcbe4df4a59ec0718b87b058d5cf7a0b5e1dc298ba2ea1bbe8bf46faf1c4fae9"), looks := false }, kinds := [], alts := [], laidByText := true, laidKinds := [.data], laidTests := true, laidLooks := .later }
def Sha3BlockBoundariesUptoCardSaid : Prop := Claim7.holds Tryd.pinned (.plain (OpenSpec.upto sha3BlockBoundariesSpec)) sha3BlockBoundariesUptoCard

/-- THE SECOND FORM's CARD OF 'voussoirlaw33.Sha3Hex'. -/
def sha3HexUptoCard : Claim7 := { stood := { row := sha3HexUptoRow, standIns := [], harness := (true, "bcbe4df4a59ec0718b87b058d5cf7a0b5e1dc298ba2ea1bbe8bf46faf1c4fae9"), looks := false }, kinds := [], alts := [], laidByText := true, laidKinds := [.data], laidTests := true, laidLooks := .later }
def Sha3HexUptoCardSaid : Prop := Claim7.holds Tryd.pinned (.plain (OpenSpec.upto sha3HexSpec)) sha3HexUptoCard

/-- THE SECOND FORM's CARD OF 'voussoirlaw33.Sha3Padding'. -/
def sha3PaddingUptoCard : Claim7 := { stood := { row := sha3PaddingUptoRow, standIns := [], harness := (true, "bcbe4df4a59ec0718b87b058d5cf7a0b5e1dc298ba2ea1bbe8bf46faf1c4fae9"), looks := false }, kinds := [], alts := [], laidByText := true, laidKinds := [.data], laidTests := true, laidLooks := .later }
def Sha3PaddingUptoCardSaid : Prop := Claim7.holds Tryd.pinned (.plain (OpenSpec.upto sha3PaddingSpec)) sha3PaddingUptoCard

/-- THE SECOND FORM's CARD OF 'voussoirlaw33.Sha3HexDigits'. -/
def sha3HexDigitsUptoCard : Claim7 := { stood := { row := sha3HexDigitsUptoRow, standIns := [], harness := (true, "bcbe4df4a59ec0718b87b058d5cf7a0b5e1dc298ba2ea1bbe8bf46faf1c4fae9"), looks := false }, kinds := [], alts := [], laidByText := true, laidKinds := [.data], laidTests := true, laidLooks := .later }
def Sha3HexDigitsUptoCardSaid : Prop := Claim7.holds Tryd.pinned (.plain (OpenSpec.upto sha3HexDigitsSpec)) sha3HexDigitsUptoCard
end Rows
end Go.Proofs.YtjbjgddfflbiaaaDoor
