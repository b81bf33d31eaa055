/-
  NARROWER THAN 'FOR EVERY INPUT', by the rows' own cells (each row's printed sentence says how): VclockContains: laid · VclockMerge: laid · VclockPartialOrder: laid · VclockPointwise: laid · VclockValidity: laid · VclockUpperBound: laid · VclockTotalOrder: laid.
  DERIVED. THE GIVEN ROWS OF THIS SEAT. 7 by the template 'for every input the law returns true; each argument reads behind the call as it read before'; 0 by the template 'total and deterministic' (their statements: YtfpijfedodljfaaDoorTotals.lean).
  GIVEN WITH THE SEED: the statements are not yours to turn. If you find one false, say at which input.
  Laid BY PROGRAM, IN A SANDBOX (cutbox-rows.mjs): the forced cells as the released guide's own fill.sh prints them over the translation 45e929f1f956bf5a… (all of the seat's roots in one cut). By AI agents, Wed Nov 11 2026. No macro, syntax, notation, axiom, sorry.
-/
import Derived.Test.YtfpijfedodljfaaDoorChecked
import GoSem.Claim
import GoSem.ClaimJoined
import GoSem.ClaimMapViews
import Derived.JoinedTies
import Derived.KernelRfl
namespace Go.Proofs.YtfpijfedodljfaaDoor
/- THE CELL 'sum', in the pinned program and in every row, IS THE sha256 OF THE DUMP (.gsa) THAT YtfpijfedodljfaaDoorProg.lean LOADS. Nothing in Lean hashes anything: it is a label: what it is worth is what the hold of that sum in a sandbox is worth. -/
noncomputable def Tryd.pinned : Pinned := { name := "ytfpijfedodljfaadoor", sum := "45e929f1f956bf5a12c6bf36671f0647cd10d895525813da1aafea74e0788112", checked := Tryd.checked }
namespace Rows
def none {H : Type} : Left H := { results := [], args := [] }

/- WHAT THE LISTED PACKAGE-LEVEL VARIABLES READ AS WHEN THE CALL BEGINS. Each datum BY PROGRAM (the guide's laid-datum.mjs) off the statement by which the dump's own 'gosem.cut.vars' lays the variable. In a bare row this is a premise. The card (YtfpijfedodljfaaDoorCards.lean) ties it to the program's text. -/
def laid_math_bits_deBruijn32tab {H : Type} : DataW H := .agg [.lit (.int .u8 0), .lit (.int .u8 1), .lit (.int .u8 28), .lit (.int .u8 2), .lit (.int .u8 29), .lit (.int .u8 14), .lit (.int .u8 24), .lit (.int .u8 3), .lit (.int .u8 30), .lit (.int .u8 22), .lit (.int .u8 20), .lit (.int .u8 15), .lit (.int .u8 25), .lit (.int .u8 17), .lit (.int .u8 4), .lit (.int .u8 8), .lit (.int .u8 31), .lit (.int .u8 27), .lit (.int .u8 13), .lit (.int .u8 23), .lit (.int .u8 21), .lit (.int .u8 19), .lit (.int .u8 16), .lit (.int .u8 7), .lit (.int .u8 26), .lit (.int .u8 12), .lit (.int .u8 18), .lit (.int .u8 6), .lit (.int .u8 11), .lit (.int .u8 5), .lit (.int .u8 10), .lit (.int .u8 9)]
def laid_math_bits_deBruijn64tab {H : Type} : DataW H := .agg [.lit (.int .u8 0), .lit (.int .u8 1), .lit (.int .u8 56), .lit (.int .u8 2), .lit (.int .u8 57), .lit (.int .u8 49), .lit (.int .u8 28), .lit (.int .u8 3), .lit (.int .u8 61), .lit (.int .u8 58), .lit (.int .u8 42), .lit (.int .u8 50), .lit (.int .u8 38), .lit (.int .u8 29), .lit (.int .u8 17), .lit (.int .u8 4), .lit (.int .u8 62), .lit (.int .u8 47), .lit (.int .u8 59), .lit (.int .u8 36), .lit (.int .u8 45), .lit (.int .u8 43), .lit (.int .u8 51), .lit (.int .u8 22), .lit (.int .u8 53), .lit (.int .u8 39), .lit (.int .u8 33), .lit (.int .u8 30), .lit (.int .u8 24), .lit (.int .u8 18), .lit (.int .u8 12), .lit (.int .u8 5), .lit (.int .u8 63), .lit (.int .u8 55), .lit (.int .u8 48), .lit (.int .u8 27), .lit (.int .u8 60), .lit (.int .u8 41), .lit (.int .u8 37), .lit (.int .u8 16), .lit (.int .u8 46), .lit (.int .u8 35), .lit (.int .u8 44), .lit (.int .u8 21), .lit (.int .u8 52), .lit (.int .u8 32), .lit (.int .u8 23), .lit (.int .u8 11), .lit (.int .u8 54), .lit (.int .u8 26), .lit (.int .u8 40), .lit (.int .u8 15), .lit (.int .u8 34), .lit (.int .u8 20), .lit (.int .u8 31), .lit (.int .u8 10), .lit (.int .u8 25), .lit (.int .u8 14), .lit (.int .u8 19), .lit (.int .u8 9), .lit (.int .u8 13), .lit (.int .u8 8), .lit (.int .u8 7), .lit (.int .u8 6)]
def laid_internal_strconv_uint64pow10 {H : Type} : DataW H := .agg [.lit (.int .u64 1), .lit (.int .u64 10), .lit (.int .u64 100), .lit (.int .u64 1000), .lit (.int .u64 10000), .lit (.int .u64 100000), .lit (.int .u64 1000000), .lit (.int .u64 10000000), .lit (.int .u64 100000000), .lit (.int .u64 1000000000), .lit (.int .u64 10000000000), .lit (.int .u64 100000000000), .lit (.int .u64 1000000000000), .lit (.int .u64 10000000000000), .lit (.int .u64 100000000000000), .lit (.int .u64 1000000000000000), .lit (.int .u64 10000000000000000), .lit (.int .u64 100000000000000000), .lit (.int .u64 1000000000000000000), .lit (.int .u64 10000000000000000000)]

/-- 'voussoirlaw36.VclockContains': WHATEVER THE INPUT: true; the input reads as it did. -/
def vclockContainsSpec : ChangeSpec := { name := "vclockContains", fn := fun _ => fun
  | [d1, d2] => { results := [.lit (.bool true)], args := [d1, d2] }
  | _ => none }
def vclockContainsRow : OpenClaim := { program := "ytfpijfedodljfaadoor", sum := "45e929f1f956bf5a12c6bf36671f0647cd10d895525813da1aafea74e0788112", func := "voussoir/voussoirlaw36.VclockContains", spec := "vclockContains", inPlace := ["internal/bytealg.abigen_runtime_cmpstring", "slices.overlaps[voussoir/api.Id]", "internal/abi.NoEscape", "internal/bytealg.MakeNoZero"], unfollowed := true, recurses := true, named := ["internal/strconv.uint64pow10", "math/bits.deBruijn32tab", "math/bits.deBruijn64tab"], apart := false, laid := [("math/bits.deBruijn32tab", laid_math_bits_deBruijn32tab), ("math/bits.deBruijn64tab", laid_math_bits_deBruijn64tab), ("internal/strconv.uint64pow10", laid_internal_strconv_uint64pow10)] }
def VclockContainsSaid : Prop := vclockContainsRow.holds Tryd.pinned (OpenSpec.ofChange vclockContainsSpec)

/-- ITS FALSE NEIGHBOUR: 'it returns false'. Refute it at one input. -/
def vclockContainsWrong : ChangeSpec := { name := "vclockContains", fn := fun _ => fun
  | [d1, d2] => { results := [.lit (.bool false)], args := [d1, d2] }
  | _ => none }
def VclockContainsWrongFalsely : Prop := vclockContainsRow.holds Tryd.pinned (OpenSpec.ofChange vclockContainsWrong)

/-- 'voussoirlaw36.VclockMerge': WHATEVER THE INPUT: true; the input reads as it did. -/
def vclockMergeSpec : ChangeSpec := { name := "vclockMerge", fn := fun _ => fun
  | [d1, d2] => { results := [.lit (.bool true)], args := [d1, d2] }
  | _ => none }
def vclockMergeRow : OpenClaim := { program := "ytfpijfedodljfaadoor", sum := "45e929f1f956bf5a12c6bf36671f0647cd10d895525813da1aafea74e0788112", func := "voussoir/voussoirlaw36.VclockMerge", spec := "vclockMerge", inPlace := ["internal/bytealg.abigen_runtime_cmpstring", "slices.overlaps[voussoir/api.Id]", "internal/abi.NoEscape", "internal/bytealg.MakeNoZero"], unfollowed := true, recurses := true, named := ["internal/strconv.uint64pow10", "math/bits.deBruijn32tab", "math/bits.deBruijn64tab"], apart := false, laid := [("math/bits.deBruijn32tab", laid_math_bits_deBruijn32tab), ("math/bits.deBruijn64tab", laid_math_bits_deBruijn64tab), ("internal/strconv.uint64pow10", laid_internal_strconv_uint64pow10)] }
def VclockMergeSaid : Prop := vclockMergeRow.holds Tryd.pinned (OpenSpec.ofChange vclockMergeSpec)

/-- ITS FALSE NEIGHBOUR: 'it returns false'. Refute it at one input. -/
def vclockMergeWrong : ChangeSpec := { name := "vclockMerge", fn := fun _ => fun
  | [d1, d2] => { results := [.lit (.bool false)], args := [d1, d2] }
  | _ => none }
def VclockMergeWrongFalsely : Prop := vclockMergeRow.holds Tryd.pinned (OpenSpec.ofChange vclockMergeWrong)

/-- 'voussoirlaw36.VclockPartialOrder': WHATEVER THE INPUT: true; the input reads as it did. -/
def vclockPartialOrderSpec : ChangeSpec := { name := "vclockPartialOrder", fn := fun _ => fun
  | [d1, d2, d3] => { results := [.lit (.bool true)], args := [d1, d2, d3] }
  | _ => none }
def vclockPartialOrderRow : OpenClaim := { program := "ytfpijfedodljfaadoor", sum := "45e929f1f956bf5a12c6bf36671f0647cd10d895525813da1aafea74e0788112", func := "voussoir/voussoirlaw36.VclockPartialOrder", spec := "vclockPartialOrder", inPlace := ["internal/bytealg.abigen_runtime_cmpstring", "slices.overlaps[voussoir/api.Id]", "internal/abi.NoEscape", "internal/bytealg.MakeNoZero"], unfollowed := true, recurses := true, named := ["internal/strconv.uint64pow10", "math/bits.deBruijn32tab", "math/bits.deBruijn64tab"], apart := false, laid := [("math/bits.deBruijn32tab", laid_math_bits_deBruijn32tab), ("math/bits.deBruijn64tab", laid_math_bits_deBruijn64tab), ("internal/strconv.uint64pow10", laid_internal_strconv_uint64pow10)] }
def VclockPartialOrderSaid : Prop := vclockPartialOrderRow.holds Tryd.pinned (OpenSpec.ofChange vclockPartialOrderSpec)

/-- ITS FALSE NEIGHBOUR: 'it returns false'. Refute it at one input. -/
def vclockPartialOrderWrong : ChangeSpec := { name := "vclockPartialOrder", fn := fun _ => fun
  | [d1, d2, d3] => { results := [.lit (.bool false)], args := [d1, d2, d3] }
  | _ => none }
def VclockPartialOrderWrongFalsely : Prop := vclockPartialOrderRow.holds Tryd.pinned (OpenSpec.ofChange vclockPartialOrderWrong)

/-- 'voussoirlaw36.VclockPointwise': WHATEVER THE INPUT: true; the input reads as it did. -/
def vclockPointwiseSpec : ChangeSpec := { name := "vclockPointwise", fn := fun _ => fun
  | [d1, d2, d3] => { results := [.lit (.bool true)], args := [d1, d2, d3] }
  | _ => none }
def vclockPointwiseRow : OpenClaim := { program := "ytfpijfedodljfaadoor", sum := "45e929f1f956bf5a12c6bf36671f0647cd10d895525813da1aafea74e0788112", func := "voussoir/voussoirlaw36.VclockPointwise", spec := "vclockPointwise", inPlace := ["internal/bytealg.abigen_runtime_cmpstring", "slices.overlaps[voussoir/api.Id]", "internal/abi.NoEscape", "internal/bytealg.MakeNoZero"], unfollowed := true, recurses := true, named := ["internal/strconv.uint64pow10", "math/bits.deBruijn32tab", "math/bits.deBruijn64tab"], apart := false, laid := [("math/bits.deBruijn32tab", laid_math_bits_deBruijn32tab), ("math/bits.deBruijn64tab", laid_math_bits_deBruijn64tab), ("internal/strconv.uint64pow10", laid_internal_strconv_uint64pow10)] }
def VclockPointwiseSaid : Prop := vclockPointwiseRow.holds Tryd.pinned (OpenSpec.ofChange vclockPointwiseSpec)

/-- ITS FALSE NEIGHBOUR: 'it returns false'. Refute it at one input. -/
def vclockPointwiseWrong : ChangeSpec := { name := "vclockPointwise", fn := fun _ => fun
  | [d1, d2, d3] => { results := [.lit (.bool false)], args := [d1, d2, d3] }
  | _ => none }
def VclockPointwiseWrongFalsely : Prop := vclockPointwiseRow.holds Tryd.pinned (OpenSpec.ofChange vclockPointwiseWrong)

/-- 'voussoirlaw36.VclockValidity': WHATEVER THE INPUT: true; the input reads as it did. -/
def vclockValiditySpec : ChangeSpec := { name := "vclockValidity", fn := fun _ => fun
  | [d1, d2] => { results := [.lit (.bool true)], args := [d1, d2] }
  | _ => none }
def vclockValidityRow : OpenClaim := { program := "ytfpijfedodljfaadoor", sum := "45e929f1f956bf5a12c6bf36671f0647cd10d895525813da1aafea74e0788112", func := "voussoir/voussoirlaw36.VclockValidity", spec := "vclockValidity", inPlace := ["internal/bytealg.abigen_runtime_cmpstring", "slices.overlaps[voussoir/api.Id]", "internal/abi.NoEscape", "internal/bytealg.MakeNoZero"], unfollowed := true, recurses := true, named := ["internal/strconv.uint64pow10", "math/bits.deBruijn32tab", "math/bits.deBruijn64tab"], apart := false, laid := [("math/bits.deBruijn32tab", laid_math_bits_deBruijn32tab), ("math/bits.deBruijn64tab", laid_math_bits_deBruijn64tab), ("internal/strconv.uint64pow10", laid_internal_strconv_uint64pow10)] }
def VclockValiditySaid : Prop := vclockValidityRow.holds Tryd.pinned (OpenSpec.ofChange vclockValiditySpec)

/-- ITS FALSE NEIGHBOUR: 'it returns false'. Refute it at one input. -/
def vclockValidityWrong : ChangeSpec := { name := "vclockValidity", fn := fun _ => fun
  | [d1, d2] => { results := [.lit (.bool false)], args := [d1, d2] }
  | _ => none }
def VclockValidityWrongFalsely : Prop := vclockValidityRow.holds Tryd.pinned (OpenSpec.ofChange vclockValidityWrong)

/-- 'voussoirlaw36.VclockUpperBound': WHATEVER THE INPUT: true; the input reads as it did. -/
def vclockUpperBoundSpec : ChangeSpec := { name := "vclockUpperBound", fn := fun _ => fun
  | [d1, d2, d3] => { results := [.lit (.bool true)], args := [d1, d2, d3] }
  | _ => none }
def vclockUpperBoundRow : OpenClaim := { program := "ytfpijfedodljfaadoor", sum := "45e929f1f956bf5a12c6bf36671f0647cd10d895525813da1aafea74e0788112", func := "voussoir/voussoirlaw36.VclockUpperBound", spec := "vclockUpperBound", inPlace := ["internal/bytealg.abigen_runtime_cmpstring", "slices.overlaps[voussoir/api.Id]", "internal/abi.NoEscape", "internal/bytealg.MakeNoZero"], unfollowed := true, recurses := true, named := ["internal/strconv.uint64pow10", "math/bits.deBruijn32tab", "math/bits.deBruijn64tab"], apart := false, laid := [("math/bits.deBruijn32tab", laid_math_bits_deBruijn32tab), ("math/bits.deBruijn64tab", laid_math_bits_deBruijn64tab), ("internal/strconv.uint64pow10", laid_internal_strconv_uint64pow10)] }
def VclockUpperBoundSaid : Prop := vclockUpperBoundRow.holds Tryd.pinned (OpenSpec.ofChange vclockUpperBoundSpec)

/-- ITS FALSE NEIGHBOUR: 'it returns false'. Refute it at one input. -/
def vclockUpperBoundWrong : ChangeSpec := { name := "vclockUpperBound", fn := fun _ => fun
  | [d1, d2, d3] => { results := [.lit (.bool false)], args := [d1, d2, d3] }
  | _ => none }
def VclockUpperBoundWrongFalsely : Prop := vclockUpperBoundRow.holds Tryd.pinned (OpenSpec.ofChange vclockUpperBoundWrong)

/-- 'voussoirlaw36.VclockTotalOrder': WHATEVER THE INPUT: true; the input reads as it did. -/
def vclockTotalOrderSpec : ChangeSpec := { name := "vclockTotalOrder", fn := fun _ => fun
  | [d1, d2, d3] => { results := [.lit (.bool true)], args := [d1, d2, d3] }
  | _ => none }
def vclockTotalOrderRow : OpenClaim := { program := "ytfpijfedodljfaadoor", sum := "45e929f1f956bf5a12c6bf36671f0647cd10d895525813da1aafea74e0788112", func := "voussoir/voussoirlaw36.VclockTotalOrder", spec := "vclockTotalOrder", inPlace := ["internal/bytealg.abigen_runtime_cmpstring", "slices.overlaps[voussoir/api.Id]", "internal/abi.NoEscape", "internal/bytealg.MakeNoZero"], unfollowed := true, recurses := true, named := ["internal/strconv.uint64pow10", "math/bits.deBruijn32tab", "math/bits.deBruijn64tab"], apart := false, laid := [("math/bits.deBruijn32tab", laid_math_bits_deBruijn32tab), ("math/bits.deBruijn64tab", laid_math_bits_deBruijn64tab), ("internal/strconv.uint64pow10", laid_internal_strconv_uint64pow10)] }
def VclockTotalOrderSaid : Prop := vclockTotalOrderRow.holds Tryd.pinned (OpenSpec.ofChange vclockTotalOrderSpec)

/-- ITS FALSE NEIGHBOUR: 'it returns false'. Refute it at one input. -/
def vclockTotalOrderWrong : ChangeSpec := { name := "vclockTotalOrder", fn := fun _ => fun
  | [d1, d2, d3] => { results := [.lit (.bool false)], args := [d1, d2, d3] }
  | _ => none }
def VclockTotalOrderWrongFalsely : Prop := vclockTotalOrderRow.holds Tryd.pinned (OpenSpec.ofChange vclockTotalOrderWrong)

/- THE SECOND FORM. 'bulk': how many values and letters a reading holds, each counted each time it is reached (what is shared counts as often as it is met; a slice's spare places count too). A statement '..UptoSaid' is the law's where the arguments, and the package variables that the reading takes, are together of bulk at most 1048576: NARROWER than '..Said'. Prove '..Said' where nothing that the law and all that it calls make is longer than what came in: it says more and counts as full. Else prove '..UptoSaid'. A law counts once. -/
mutual
def uptoBulk {H : Type} : DataW H → Nat
  | .lit (.string bytes) => bytes.length + 1
  | .lit _ => 1
  | .nil => 1
  | .ptr d => uptoBulk d + 1
  | .slice elems spare => uptoBulkAll elems + uptoBulkAll spare + 1
  | .agg parts => uptoBulkAll parts + 1
  | .iface _ d => uptoBulk d + 1
  | .map entries => uptoBulkEntries entries + 1
  | .held _ => 1
def uptoBulkAll {H : Type} : List (DataW H) → Nat
  | [] => 0
  | d :: r => uptoBulk d + uptoBulkAll r
def uptoBulkEntries {H : Type} : List (Lit × DataW H) → Nat
  | [] => 0
  | x :: r => uptoBulkEntry x + uptoBulkEntries r
def uptoBulkEntry {H : Type} : Lit × DataW H → Nat
  | (.string bytes, d) => bytes.length + uptoBulk d + 1
  | (_, d) => uptoBulk d + 1
 end
def uptoSmall : (H : Type) → List (DataW H) → Bool := fun _ ds => decide (uptoBulkAll ds ≤ 1048576)
def OpenSpec.upto (s : _root_.Go.ChangeSpec) : _root_.Go.OpenSpec := { _root_.Go.OpenSpec.ofChange s with cond := some uptoSmall }

/-- 'voussoirlaw36.VclockContains', WHERE WHAT IT READS IS OF BULK AT MOST 1048576: true; the input reads as it did. -/
def vclockContainsUptoRow : OpenClaim := { program := "ytfpijfedodljfaadoor", sum := "45e929f1f956bf5a12c6bf36671f0647cd10d895525813da1aafea74e0788112", func := "voussoir/voussoirlaw36.VclockContains", spec := "vclockContains", inPlace := ["internal/bytealg.abigen_runtime_cmpstring", "slices.overlaps[voussoir/api.Id]", "internal/abi.NoEscape", "internal/bytealg.MakeNoZero"], unfollowed := true, recurses := true, named := ["internal/strconv.uint64pow10", "math/bits.deBruijn32tab", "math/bits.deBruijn64tab"], apart := false, laid := [("math/bits.deBruijn32tab", laid_math_bits_deBruijn32tab), ("math/bits.deBruijn64tab", laid_math_bits_deBruijn64tab), ("internal/strconv.uint64pow10", laid_internal_strconv_uint64pow10)], narrowed := true }
def VclockContainsUptoSaid : Prop := vclockContainsUptoRow.holds Tryd.pinned (OpenSpec.upto vclockContainsSpec)

/-- 'voussoirlaw36.VclockMerge', WHERE WHAT IT READS IS OF BULK AT MOST 1048576: true; the input reads as it did. -/
def vclockMergeUptoRow : OpenClaim := { program := "ytfpijfedodljfaadoor", sum := "45e929f1f956bf5a12c6bf36671f0647cd10d895525813da1aafea74e0788112", func := "voussoir/voussoirlaw36.VclockMerge", spec := "vclockMerge", inPlace := ["internal/bytealg.abigen_runtime_cmpstring", "slices.overlaps[voussoir/api.Id]", "internal/abi.NoEscape", "internal/bytealg.MakeNoZero"], unfollowed := true, recurses := true, named := ["internal/strconv.uint64pow10", "math/bits.deBruijn32tab", "math/bits.deBruijn64tab"], apart := false, laid := [("math/bits.deBruijn32tab", laid_math_bits_deBruijn32tab), ("math/bits.deBruijn64tab", laid_math_bits_deBruijn64tab), ("internal/strconv.uint64pow10", laid_internal_strconv_uint64pow10)], narrowed := true }
def VclockMergeUptoSaid : Prop := vclockMergeUptoRow.holds Tryd.pinned (OpenSpec.upto vclockMergeSpec)

/-- 'voussoirlaw36.VclockPartialOrder', WHERE WHAT IT READS IS OF BULK AT MOST 1048576: true; the input reads as it did. -/
def vclockPartialOrderUptoRow : OpenClaim := { program := "ytfpijfedodljfaadoor", sum := "45e929f1f956bf5a12c6bf36671f0647cd10d895525813da1aafea74e0788112", func := "voussoir/voussoirlaw36.VclockPartialOrder", spec := "vclockPartialOrder", inPlace := ["internal/bytealg.abigen_runtime_cmpstring", "slices.overlaps[voussoir/api.Id]", "internal/abi.NoEscape", "internal/bytealg.MakeNoZero"], unfollowed := true, recurses := true, named := ["internal/strconv.uint64pow10", "math/bits.deBruijn32tab", "math/bits.deBruijn64tab"], apart := false, laid := [("math/bits.deBruijn32tab", laid_math_bits_deBruijn32tab), ("math/bits.deBruijn64tab", laid_math_bits_deBruijn64tab), ("internal/strconv.uint64pow10", laid_internal_strconv_uint64pow10)], narrowed := true }
def VclockPartialOrderUptoSaid : Prop := vclockPartialOrderUptoRow.holds Tryd.pinned (OpenSpec.upto vclockPartialOrderSpec)

/-- 'voussoirlaw36.VclockPointwise', WHERE WHAT IT READS IS OF BULK AT MOST 1048576: true; the input reads as it did. -/
def vclockPointwiseUptoRow : OpenClaim := { program := "ytfpijfedodljfaadoor", sum := "45e929f1f956bf5a12c6bf36671f0647cd10d895525813da1aafea74e0788112", func := "voussoir/voussoirlaw36.VclockPointwise", spec := "vclockPointwise", inPlace := ["internal/bytealg.abigen_runtime_cmpstring", "slices.overlaps[voussoir/api.Id]", "internal/abi.NoEscape", "internal/bytealg.MakeNoZero"], unfollowed := true, recurses := true, named := ["internal/strconv.uint64pow10", "math/bits.deBruijn32tab", "math/bits.deBruijn64tab"], apart := false, laid := [("math/bits.deBruijn32tab", laid_math_bits_deBruijn32tab), ("math/bits.deBruijn64tab", laid_math_bits_deBruijn64tab), ("internal/strconv.uint64pow10", laid_internal_strconv_uint64pow10)], narrowed := true }
def VclockPointwiseUptoSaid : Prop := vclockPointwiseUptoRow.holds Tryd.pinned (OpenSpec.upto vclockPointwiseSpec)

/-- 'voussoirlaw36.VclockValidity', WHERE WHAT IT READS IS OF BULK AT MOST 1048576: true; the input reads as it did. -/
def vclockValidityUptoRow : OpenClaim := { program := "ytfpijfedodljfaadoor", sum := "45e929f1f956bf5a12c6bf36671f0647cd10d895525813da1aafea74e0788112", func := "voussoir/voussoirlaw36.VclockValidity", spec := "vclockValidity", inPlace := ["internal/bytealg.abigen_runtime_cmpstring", "slices.overlaps[voussoir/api.Id]", "internal/abi.NoEscape", "internal/bytealg.MakeNoZero"], unfollowed := true, recurses := true, named := ["internal/strconv.uint64pow10", "math/bits.deBruijn32tab", "math/bits.deBruijn64tab"], apart := false, laid := [("math/bits.deBruijn32tab", laid_math_bits_deBruijn32tab), ("math/bits.deBruijn64tab", laid_math_bits_deBruijn64tab), ("internal/strconv.uint64pow10", laid_internal_strconv_uint64pow10)], narrowed := true }
def VclockValidityUptoSaid : Prop := vclockValidityUptoRow.holds Tryd.pinned (OpenSpec.upto vclockValiditySpec)

/-- 'voussoirlaw36.VclockUpperBound', WHERE WHAT IT READS IS OF BULK AT MOST 1048576: true; the input reads as it did. -/
def vclockUpperBoundUptoRow : OpenClaim := { program := "ytfpijfedodljfaadoor", sum := "45e929f1f956bf5a12c6bf36671f0647cd10d895525813da1aafea74e0788112", func := "voussoir/voussoirlaw36.VclockUpperBound", spec := "vclockUpperBound", inPlace := ["internal/bytealg.abigen_runtime_cmpstring", "slices.overlaps[voussoir/api.Id]", "internal/abi.NoEscape", "internal/bytealg.MakeNoZero"], unfollowed := true, recurses := true, named := ["internal/strconv.uint64pow10", "math/bits.deBruijn32tab", "math/bits.deBruijn64tab"], apart := false, laid := [("math/bits.deBruijn32tab", laid_math_bits_deBruijn32tab), ("math/bits.deBruijn64tab", laid_math_bits_deBruijn64tab), ("internal/strconv.uint64pow10", laid_internal_strconv_uint64pow10)], narrowed := true }
def VclockUpperBoundUptoSaid : Prop := vclockUpperBoundUptoRow.holds Tryd.pinned (OpenSpec.upto vclockUpperBoundSpec)

/-- 'voussoirlaw36.VclockTotalOrder', WHERE WHAT IT READS IS OF BULK AT MOST 1048576: true; the input reads as it did. -/
def vclockTotalOrderUptoRow : OpenClaim := { program := "ytfpijfedodljfaadoor", sum := "45e929f1f956bf5a12c6bf36671f0647cd10d895525813da1aafea74e0788112", func := "voussoir/voussoirlaw36.VclockTotalOrder", spec := "vclockTotalOrder", inPlace := ["internal/bytealg.abigen_runtime_cmpstring", "slices.overlaps[voussoir/api.Id]", "internal/abi.NoEscape", "internal/bytealg.MakeNoZero"], unfollowed := true, recurses := true, named := ["internal/strconv.uint64pow10", "math/bits.deBruijn32tab", "math/bits.deBruijn64tab"], apart := false, laid := [("math/bits.deBruijn32tab", laid_math_bits_deBruijn32tab), ("math/bits.deBruijn64tab", laid_math_bits_deBruijn64tab), ("internal/strconv.uint64pow10", laid_internal_strconv_uint64pow10)], narrowed := true }
def VclockTotalOrderUptoSaid : Prop := vclockTotalOrderUptoRow.holds Tryd.pinned (OpenSpec.upto vclockTotalOrderSpec)

end Rows
end Go.Proofs.YtfpijfedodljfaaDoor
