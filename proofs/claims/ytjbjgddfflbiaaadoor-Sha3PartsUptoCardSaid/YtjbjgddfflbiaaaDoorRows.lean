/-
  NARROWER THAN 'FOR EVERY INPUT', by the rows' own cells (each row's printed sentence says how): Sha3Digest: laid · Sha3Parts: laid · Sha3BlockBoundaries: laid · Sha3Hex: laid · Sha3Padding: laid · Sha3HexDigits: laid.
  DERIVED. THE GIVEN ROWS OF THIS SEAT. 6 by the template 'for every input the law returns true; each argument reads behind the call as it read before'; 0 by the template 'total and deterministic' (their statements: YtjbjgddfflbiaaaDoorTotals.lean).
  GIVEN WITH THE SEED: the statements are not yours to turn. If you find one false, say at which input.
  Laid BY PROGRAM, IN A SANDBOX (cutbox-rows.mjs): the forced cells as the released guide's own fill.sh prints them over the translation 2c3489f70d8168b6… (all of the seat's roots in one cut). By AI agents, Wed Nov 11 2026. No macro, syntax, notation, axiom, sorry.
-/
import Derived.Test.YtjbjgddfflbiaaaDoorChecked
import GoSem.Claim
import GoSem.ClaimJoined
import GoSem.ClaimMapViews
import Derived.JoinedTies
import Derived.KernelRfl
namespace Go.Proofs.YtjbjgddfflbiaaaDoor
/- THE CELL 'sum', in the pinned program and in every row, IS THE sha256 OF THE DUMP (.gsa) THAT YtjbjgddfflbiaaaDoorProg.lean LOADS. Nothing in Lean hashes anything: it is a label: what it is worth is what the hold of that sum in a sandbox is worth. -/
noncomputable def Tryd.pinned : Pinned := { name := "ytjbjgddfflbiaaadoor", sum := "2c3489f70d8168b68148a1f4ad52b7ada9d7f3db93901859cedd68f4a54365bc", checked := Tryd.checked }
namespace Rows
def none {H : Type} : Left H := { results := [], args := [] }

/- WHAT THE LISTED PACKAGE-LEVEL VARIABLES READ AS WHEN THE CALL BEGINS. Each datum BY PROGRAM (the guide's laid-datum.mjs) off the statement by which the dump's own 'gosem.cut.vars' lays the variable. In a bare row this is a premise. The card (YtjbjgddfflbiaaaDoorCards.lean) ties it to the program's text. -/
def laid_voussoir_sha3_words {H : Type} : DataW H := .agg [.lit (.int .u64 1), .lit (.int .u64 32898), .lit (.int .u64 9223372036854808714), .lit (.int .u64 9223372039002292224), .lit (.int .u64 32907), .lit (.int .u64 2147483649), .lit (.int .u64 9223372039002292353), .lit (.int .u64 9223372036854808585), .lit (.int .u64 138), .lit (.int .u64 136), .lit (.int .u64 2147516425), .lit (.int .u64 2147483658), .lit (.int .u64 2147516555), .lit (.int .u64 9223372036854775947), .lit (.int .u64 9223372036854808713), .lit (.int .u64 9223372036854808579), .lit (.int .u64 9223372036854808578), .lit (.int .u64 9223372036854775936), .lit (.int .u64 32778), .lit (.int .u64 9223372039002259466), .lit (.int .u64 9223372039002292353), .lit (.int .u64 9223372036854808704), .lit (.int .u64 2147483649), .lit (.int .u64 9223372039002292232)]

/-- 'voussoirlaw33.Sha3Digest': WHATEVER THE INPUT: true; the input reads as it did. -/
def sha3DigestSpec : ChangeSpec := { name := "sha3Digest", fn := fun _ => fun
  | [d] => { results := [.lit (.bool true)], args := [d] }
  | _ => none }
def sha3DigestRow : OpenClaim := { program := "ytjbjgddfflbiaaadoor", sum := "2c3489f70d8168b68148a1f4ad52b7ada9d7f3db93901859cedd68f4a54365bc", func := "voussoir/voussoirlaw33.Sha3Digest", spec := "sha3Digest", inPlace := ["internal/abi.NoEscape", "internal/bytealg.MakeNoZero"], unfollowed := true, recurses := true, named := ["voussoir/sha3.words"], apart := false, laid := [("voussoir/sha3.words", laid_voussoir_sha3_words)] }
def Sha3DigestSaid : Prop := sha3DigestRow.holds Tryd.pinned (OpenSpec.ofChange sha3DigestSpec)

/-- ITS FALSE NEIGHBOUR: 'it returns false'. Refute it at one input. -/
def sha3DigestWrong : ChangeSpec := { name := "sha3Digest", fn := fun _ => fun
  | [d] => { results := [.lit (.bool false)], args := [d] }
  | _ => none }
def Sha3DigestWrongFalsely : Prop := sha3DigestRow.holds Tryd.pinned (OpenSpec.ofChange sha3DigestWrong)

/-- 'voussoirlaw33.Sha3Parts': WHATEVER THE INPUT: true; the input reads as it did. -/
def sha3PartsSpec : ChangeSpec := { name := "sha3Parts", fn := fun _ => fun
  | [d1, d2, d3] => { results := [.lit (.bool true)], args := [d1, d2, d3] }
  | _ => none }
def sha3PartsRow : OpenClaim := { program := "ytjbjgddfflbiaaadoor", sum := "2c3489f70d8168b68148a1f4ad52b7ada9d7f3db93901859cedd68f4a54365bc", func := "voussoir/voussoirlaw33.Sha3Parts", spec := "sha3Parts", inPlace := ["internal/abi.NoEscape", "internal/bytealg.MakeNoZero"], unfollowed := true, recurses := true, named := ["voussoir/sha3.words"], apart := false, laid := [("voussoir/sha3.words", laid_voussoir_sha3_words)] }
def Sha3PartsSaid : Prop := sha3PartsRow.holds Tryd.pinned (OpenSpec.ofChange sha3PartsSpec)

/-- ITS FALSE NEIGHBOUR: 'it returns false'. Refute it at one input. -/
def sha3PartsWrong : ChangeSpec := { name := "sha3Parts", fn := fun _ => fun
  | [d1, d2, d3] => { results := [.lit (.bool false)], args := [d1, d2, d3] }
  | _ => none }
def Sha3PartsWrongFalsely : Prop := sha3PartsRow.holds Tryd.pinned (OpenSpec.ofChange sha3PartsWrong)

/-- 'voussoirlaw33.Sha3BlockBoundaries': WHATEVER THE INPUT: true; the input reads as it did. -/
def sha3BlockBoundariesSpec : ChangeSpec := { name := "sha3BlockBoundaries", fn := fun _ => fun
  | [d1, d2] => { results := [.lit (.bool true)], args := [d1, d2] }
  | _ => none }
def sha3BlockBoundariesRow : OpenClaim := { program := "ytjbjgddfflbiaaadoor", sum := "2c3489f70d8168b68148a1f4ad52b7ada9d7f3db93901859cedd68f4a54365bc", func := "voussoir/voussoirlaw33.Sha3BlockBoundaries", spec := "sha3BlockBoundaries", inPlace := ["internal/abi.NoEscape", "internal/bytealg.MakeNoZero"], unfollowed := true, recurses := true, named := ["voussoir/sha3.words"], apart := false, laid := [("voussoir/sha3.words", laid_voussoir_sha3_words)] }
def Sha3BlockBoundariesSaid : Prop := sha3BlockBoundariesRow.holds Tryd.pinned (OpenSpec.ofChange sha3BlockBoundariesSpec)

/-- ITS FALSE NEIGHBOUR: 'it returns false'. Refute it at one input. -/
def sha3BlockBoundariesWrong : ChangeSpec := { name := "sha3BlockBoundaries", fn := fun _ => fun
  | [d1, d2] => { results := [.lit (.bool false)], args := [d1, d2] }
  | _ => none }
def Sha3BlockBoundariesWrongFalsely : Prop := sha3BlockBoundariesRow.holds Tryd.pinned (OpenSpec.ofChange sha3BlockBoundariesWrong)

/-- 'voussoirlaw33.Sha3Hex': WHATEVER THE INPUT: true; the input reads as it did. -/
def sha3HexSpec : ChangeSpec := { name := "sha3Hex", fn := fun _ => fun
  | [d1, d2] => { results := [.lit (.bool true)], args := [d1, d2] }
  | _ => none }
def sha3HexRow : OpenClaim := { program := "ytjbjgddfflbiaaadoor", sum := "2c3489f70d8168b68148a1f4ad52b7ada9d7f3db93901859cedd68f4a54365bc", func := "voussoir/voussoirlaw33.Sha3Hex", spec := "sha3Hex", inPlace := ["internal/abi.NoEscape", "internal/bytealg.MakeNoZero"], unfollowed := true, recurses := true, named := ["voussoir/sha3.words"], apart := false, laid := [("voussoir/sha3.words", laid_voussoir_sha3_words)] }
def Sha3HexSaid : Prop := sha3HexRow.holds Tryd.pinned (OpenSpec.ofChange sha3HexSpec)

/-- ITS FALSE NEIGHBOUR: 'it returns false'. Refute it at one input. -/
def sha3HexWrong : ChangeSpec := { name := "sha3Hex", fn := fun _ => fun
  | [d1, d2] => { results := [.lit (.bool false)], args := [d1, d2] }
  | _ => none }
def Sha3HexWrongFalsely : Prop := sha3HexRow.holds Tryd.pinned (OpenSpec.ofChange sha3HexWrong)

/-- 'voussoirlaw33.Sha3Padding': WHATEVER THE INPUT: true; the input reads as it did. -/
def sha3PaddingSpec : ChangeSpec := { name := "sha3Padding", fn := fun _ => fun
  | [d1, d2] => { results := [.lit (.bool true)], args := [d1, d2] }
  | _ => none }
def sha3PaddingRow : OpenClaim := { program := "ytjbjgddfflbiaaadoor", sum := "2c3489f70d8168b68148a1f4ad52b7ada9d7f3db93901859cedd68f4a54365bc", func := "voussoir/voussoirlaw33.Sha3Padding", spec := "sha3Padding", inPlace := ["internal/abi.NoEscape", "internal/bytealg.MakeNoZero"], unfollowed := true, recurses := true, named := ["voussoir/sha3.words"], apart := false, laid := [("voussoir/sha3.words", laid_voussoir_sha3_words)] }
def Sha3PaddingSaid : Prop := sha3PaddingRow.holds Tryd.pinned (OpenSpec.ofChange sha3PaddingSpec)

/-- ITS FALSE NEIGHBOUR: 'it returns false'. Refute it at one input. -/
def sha3PaddingWrong : ChangeSpec := { name := "sha3Padding", fn := fun _ => fun
  | [d1, d2] => { results := [.lit (.bool false)], args := [d1, d2] }
  | _ => none }
def Sha3PaddingWrongFalsely : Prop := sha3PaddingRow.holds Tryd.pinned (OpenSpec.ofChange sha3PaddingWrong)

/-- 'voussoirlaw33.Sha3HexDigits': WHATEVER THE INPUT: true; the input reads as it did. -/
def sha3HexDigitsSpec : ChangeSpec := { name := "sha3HexDigits", fn := fun _ => fun
  | [d] => { results := [.lit (.bool true)], args := [d] }
  | _ => none }
def sha3HexDigitsRow : OpenClaim := { program := "ytjbjgddfflbiaaadoor", sum := "2c3489f70d8168b68148a1f4ad52b7ada9d7f3db93901859cedd68f4a54365bc", func := "voussoir/voussoirlaw33.Sha3HexDigits", spec := "sha3HexDigits", inPlace := ["internal/abi.NoEscape", "internal/bytealg.MakeNoZero"], unfollowed := true, recurses := true, named := ["voussoir/sha3.words"], apart := false, laid := [("voussoir/sha3.words", laid_voussoir_sha3_words)] }
def Sha3HexDigitsSaid : Prop := sha3HexDigitsRow.holds Tryd.pinned (OpenSpec.ofChange sha3HexDigitsSpec)

/-- ITS FALSE NEIGHBOUR: 'it returns false'. Refute it at one input. -/
def sha3HexDigitsWrong : ChangeSpec := { name := "sha3HexDigits", fn := fun _ => fun
  | [d] => { results := [.lit (.bool false)], args := [d] }
  | _ => none }
def Sha3HexDigitsWrongFalsely : Prop := sha3HexDigitsRow.holds Tryd.pinned (OpenSpec.ofChange sha3HexDigitsWrong)

/- THE SECOND FORM. 'bulk': how many values and letters a reading holds, each counted each time it is reached (what is shared counts as often as it is met; a slice's spare places count too). A statement '..UptoSaid' is the law's where the arguments, and the package variables that the reading takes, are together of bulk at most 1048576: NARROWER than '..Said'. Prove '..Said' where nothing that the law and all that it calls make is longer than what came in: it says more and counts as full. Else prove '..UptoSaid'. A law counts once. -/
mutual
def uptoBulk {H : Type} : DataW H → Nat
  | .lit (.string bytes) => bytes.length + 1
  | .lit _ => 1
  | .nil => 1
  | .ptr d => uptoBulk d + 1
  | .slice elems spare => uptoBulkAll elems + uptoBulkAll spare + 1
  | .agg parts => uptoBulkAll parts + 1
  | .iface _ d => uptoBulk d + 1
  | .map entries => uptoBulkEntries entries + 1
  | .held _ => 1
def uptoBulkAll {H : Type} : List (DataW H) → Nat
  | [] => 0
  | d :: r => uptoBulk d + uptoBulkAll r
def uptoBulkEntries {H : Type} : List (Lit × DataW H) → Nat
  | [] => 0
  | x :: r => uptoBulkEntry x + uptoBulkEntries r
def uptoBulkEntry {H : Type} : Lit × DataW H → Nat
  | (.string bytes, d) => bytes.length + uptoBulk d + 1
  | (_, d) => uptoBulk d + 1
 end
def uptoSmall : (H : Type) → List (DataW H) → Bool := fun _ ds => decide (uptoBulkAll ds ≤ 1048576)
def OpenSpec.upto (s : _root_.Go.ChangeSpec) : _root_.Go.OpenSpec := { _root_.Go.OpenSpec.ofChange s with cond := some uptoSmall }

/-- 'voussoirlaw33.Sha3Digest', WHERE WHAT IT READS IS OF BULK AT MOST 1048576: true; the input reads as it did. -/
def sha3DigestUptoRow : OpenClaim := { program := "ytjbjgddfflbiaaadoor", sum := "2c3489f70d8168b68148a1f4ad52b7ada9d7f3db93901859cedd68f4a54365bc", func := "voussoir/voussoirlaw33.Sha3Digest", spec := "sha3Digest", inPlace := ["internal/abi.NoEscape", "internal/bytealg.MakeNoZero"], unfollowed := true, recurses := true, named := ["voussoir/sha3.words"], apart := false, laid := [("voussoir/sha3.words", laid_voussoir_sha3_words)], narrowed := true }
def Sha3DigestUptoSaid : Prop := sha3DigestUptoRow.holds Tryd.pinned (OpenSpec.upto sha3DigestSpec)

/-- 'voussoirlaw33.Sha3Parts', WHERE WHAT IT READS IS OF BULK AT MOST 1048576: true; the input reads as it did. -/
def sha3PartsUptoRow : OpenClaim := { program := "ytjbjgddfflbiaaadoor", sum := "2c3489f70d8168b68148a1f4ad52b7ada9d7f3db93901859cedd68f4a54365bc", func := "voussoir/voussoirlaw33.Sha3Parts", spec := "sha3Parts", inPlace := ["internal/abi.NoEscape", "internal/bytealg.MakeNoZero"], unfollowed := true, recurses := true, named := ["voussoir/sha3.words"], apart := false, laid := [("voussoir/sha3.words", laid_voussoir_sha3_words)], narrowed := true }
def Sha3PartsUptoSaid : Prop := sha3PartsUptoRow.holds Tryd.pinned (OpenSpec.upto sha3PartsSpec)

/-- 'voussoirlaw33.Sha3BlockBoundaries', WHERE WHAT IT READS IS OF BULK AT MOST 1048576: true; the input reads as it did. -/
def sha3BlockBoundariesUptoRow : OpenClaim := { program := "ytjbjgddfflbiaaadoor", sum := "2c3489f70d8168b68148a1f4ad52b7ada9d7f3db93901859cedd68f4a54365bc", func := "voussoir/voussoirlaw33.Sha3BlockBoundaries", spec := "sha3BlockBoundaries", inPlace := ["internal/abi.NoEscape", "internal/bytealg.MakeNoZero"], unfollowed := true, recurses := true, named := ["voussoir/sha3.words"], apart := false, laid := [("voussoir/sha3.words", laid_voussoir_sha3_words)], narrowed := true }
def Sha3BlockBoundariesUptoSaid : Prop := sha3BlockBoundariesUptoRow.holds Tryd.pinned (OpenSpec.upto sha3BlockBoundariesSpec)

/-- 'voussoirlaw33.Sha3Hex', WHERE WHAT IT READS IS OF BULK AT MOST 1048576: true; the input reads as it did. -/
def sha3HexUptoRow : OpenClaim := { program := "ytjbjgddfflbiaaadoor", sum := "2c3489f70d8168b68148a1f4ad52b7ada9d7f3db93901859cedd68f4a54365bc", func := "voussoir/voussoirlaw33.Sha3Hex", spec := "sha3Hex", inPlace := ["internal/abi.NoEscape", "internal/bytealg.MakeNoZero"], unfollowed := true, recurses := true, named := ["voussoir/sha3.words"], apart := false, laid := [("voussoir/sha3.words", laid_voussoir_sha3_words)], narrowed := true }
def Sha3HexUptoSaid : Prop := sha3HexUptoRow.holds Tryd.pinned (OpenSpec.upto sha3HexSpec)

/-- 'voussoirlaw33.Sha3Padding', WHERE WHAT IT READS IS OF BULK AT MOST 1048576: true; the input reads as it did. -/
def sha3PaddingUptoRow : OpenClaim := { program := "ytjbjgddfflbiaaadoor", sum := "2c3489f70d8168b68148a1f4ad52b7ada9d7f3db93901859cedd68f4a54365bc", func := "voussoir/voussoirlaw33.Sha3Padding", spec := "sha3Padding", inPlace := ["internal/abi.NoEscape", "internal/bytealg.MakeNoZero"], unfollowed := true, recurses := true, named := ["voussoir/sha3.words"], apart := false, laid := [("voussoir/sha3.words", laid_voussoir_sha3_words)], narrowed := true }
def Sha3PaddingUptoSaid : Prop := sha3PaddingUptoRow.holds Tryd.pinned (OpenSpec.upto sha3PaddingSpec)

/-- 'voussoirlaw33.Sha3HexDigits', WHERE WHAT IT READS IS OF BULK AT MOST 1048576: true; the input reads as it did. -/
def sha3HexDigitsUptoRow : OpenClaim := { program := "ytjbjgddfflbiaaadoor", sum := "2c3489f70d8168b68148a1f4ad52b7ada9d7f3db93901859cedd68f4a54365bc", func := "voussoir/voussoirlaw33.Sha3HexDigits", spec := "sha3HexDigits", inPlace := ["internal/abi.NoEscape", "internal/bytealg.MakeNoZero"], unfollowed := true, recurses := true, named := ["voussoir/sha3.words"], apart := false, laid := [("voussoir/sha3.words", laid_voussoir_sha3_words)], narrowed := true }
def Sha3HexDigitsUptoSaid : Prop := sha3HexDigitsUptoRow.holds Tryd.pinned (OpenSpec.upto sha3HexDigitsSpec)

end Rows
end Go.Proofs.YtjbjgddfflbiaaaDoor
