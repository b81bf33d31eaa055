/-
  No cell of these rows narrows 'for every input' (looked for: loops, veiled, ifaces, maps, wideKeys, modest, calm, conditions, laid).
  DERIVED. THE GIVEN ROWS OF THIS SEAT. 6 by the template 'for every input the law returns true; each argument reads behind the call as it read before'; 0 by the template 'total and deterministic' (their statements: YtahgddfnbjpfiaaTotals.lean).
  GIVEN WITH THE SEED: the statements are not yours to turn. If you find one false, say at which input.
  Laid BY PROGRAM, IN A SANDBOX (cutbox-rows.mjs): the forced cells as the released guide's own fill.sh prints them over the translation 915c6aa0044de4ef… (all of the seat's roots in one cut). By AI agents, Wed Nov 11 2026. No macro, syntax, notation, axiom, sorry.
-/
import Derived.Test.YtahgddfnbjpfiaaChecked
import GoSem.Claim
import GoSem.ClaimJoined
import GoSem.ClaimMapViews
import Derived.JoinedTies
import Derived.KernelRfl
namespace Go.Proofs.Ytahgddfnbjpfiaa
/- THE CELL 'sum', in the pinned program and in every row, IS THE sha256 OF THE DUMP (.gsa) THAT YtahgddfnbjpfiaaProg.lean LOADS. Nothing in Lean hashes anything: it is a label: what it is worth is what the hold of that sum in a sandbox is worth. -/
noncomputable def Try.pinned : Pinned := { name := "ytahgddfnbjpfiaa", sum := "915c6aa0044de4efc6dd8fc1a573c4296c8e77629f3533de224f79820e2c5f11", checked := Try.checked }
namespace Rows
def none {H : Type} : Left H := { results := [], args := [] }

/-- 'voussoirlaw40.UndoResults': WHATEVER THE INPUT: true; the input reads as it did. -/
def undoResultsSpec : ChangeSpec := { name := "undoResults", fn := fun _ => fun
  | [d] => { results := [.lit (.bool true)], args := [d] }
  | _ => none }
def undoResultsRow : OpenClaim := { program := "ytahgddfnbjpfiaa", sum := "915c6aa0044de4efc6dd8fc1a573c4296c8e77629f3533de224f79820e2c5f11", func := "voussoir/voussoirlaw40.UndoResults", spec := "undoResults", inPlace := ["internal/bytealg.abigen_runtime_cmpstring"], unfollowed := true, recurses := true, plainKeys := false, apart := false }
def UndoResultsSaid : Prop := undoResultsRow.holds Try.pinned (OpenSpec.ofChange undoResultsSpec)

/-- ITS FALSE NEIGHBOUR: 'it returns false'. Refute it at one input. -/
def undoResultsWrong : ChangeSpec := { name := "undoResults", fn := fun _ => fun
  | [d] => { results := [.lit (.bool false)], args := [d] }
  | _ => none }
def UndoResultsWrongFalsely : Prop := undoResultsRow.holds Try.pinned (OpenSpec.ofChange undoResultsWrong)

/-- 'voussoirlaw40.UndoOwnEdits': WHATEVER THE INPUT: true; the input reads as it did. -/
def undoOwnEditsSpec : ChangeSpec := { name := "undoOwnEdits", fn := fun _ => fun
  | [d] => { results := [.lit (.bool true)], args := [d] }
  | _ => none }
def undoOwnEditsRow : OpenClaim := { program := "ytahgddfnbjpfiaa", sum := "915c6aa0044de4efc6dd8fc1a573c4296c8e77629f3533de224f79820e2c5f11", func := "voussoir/voussoirlaw40.UndoOwnEdits", spec := "undoOwnEdits", inPlace := ["internal/bytealg.abigen_runtime_cmpstring"], unfollowed := true, recurses := true, plainKeys := false, apart := false }
def UndoOwnEditsSaid : Prop := undoOwnEditsRow.holds Try.pinned (OpenSpec.ofChange undoOwnEditsSpec)

/-- ITS FALSE NEIGHBOUR: 'it returns false'. Refute it at one input. -/
def undoOwnEditsWrong : ChangeSpec := { name := "undoOwnEdits", fn := fun _ => fun
  | [d] => { results := [.lit (.bool false)], args := [d] }
  | _ => none }
def UndoOwnEditsWrongFalsely : Prop := undoOwnEditsRow.holds Try.pinned (OpenSpec.ofChange undoOwnEditsWrong)

/-- 'voussoirlaw40.UndoUntargeted': WHATEVER THE INPUT: true; the input reads as it did. -/
def undoUntargetedSpec : ChangeSpec := { name := "undoUntargeted", fn := fun _ => fun
  | [d] => { results := [.lit (.bool true)], args := [d] }
  | _ => none }
def undoUntargetedRow : OpenClaim := { program := "ytahgddfnbjpfiaa", sum := "915c6aa0044de4efc6dd8fc1a573c4296c8e77629f3533de224f79820e2c5f11", func := "voussoir/voussoirlaw40.UndoUntargeted", spec := "undoUntargeted", inPlace := ["internal/bytealg.abigen_runtime_cmpstring"], unfollowed := true, recurses := true, plainKeys := false, apart := false }
def UndoUntargetedSaid : Prop := undoUntargetedRow.holds Try.pinned (OpenSpec.ofChange undoUntargetedSpec)

/-- ITS FALSE NEIGHBOUR: 'it returns false'. Refute it at one input. -/
def undoUntargetedWrong : ChangeSpec := { name := "undoUntargeted", fn := fun _ => fun
  | [d] => { results := [.lit (.bool false)], args := [d] }
  | _ => none }
def UndoUntargetedWrongFalsely : Prop := undoUntargetedRow.holds Try.pinned (OpenSpec.ofChange undoUntargetedWrong)

/-- 'voussoirlaw40.UndoRedo': WHATEVER THE INPUT: true; the input reads as it did. -/
def undoRedoSpec : ChangeSpec := { name := "undoRedo", fn := fun _ => fun
  | [d1, d2] => { results := [.lit (.bool true)], args := [d1, d2] }
  | _ => none }
def undoRedoRow : OpenClaim := { program := "ytahgddfnbjpfiaa", sum := "915c6aa0044de4efc6dd8fc1a573c4296c8e77629f3533de224f79820e2c5f11", func := "voussoir/voussoirlaw40.UndoRedo", spec := "undoRedo", inPlace := ["internal/bytealg.abigen_runtime_cmpstring"], unfollowed := true, recurses := true, plainKeys := false, apart := false }
def UndoRedoSaid : Prop := undoRedoRow.holds Try.pinned (OpenSpec.ofChange undoRedoSpec)

/-- ITS FALSE NEIGHBOUR: 'it returns false'. Refute it at one input. -/
def undoRedoWrong : ChangeSpec := { name := "undoRedo", fn := fun _ => fun
  | [d1, d2] => { results := [.lit (.bool false)], args := [d1, d2] }
  | _ => none }
def UndoRedoWrongFalsely : Prop := undoRedoRow.holds Try.pinned (OpenSpec.ofChange undoRedoWrong)

/-- 'voussoirlaw40.UndoFloor': WHATEVER THE INPUT: true; the input reads as it did. -/
def undoFloorSpec : ChangeSpec := { name := "undoFloor", fn := fun _ => fun
  | [d] => { results := [.lit (.bool true)], args := [d] }
  | _ => none }
def undoFloorRow : OpenClaim := { program := "ytahgddfnbjpfiaa", sum := "915c6aa0044de4efc6dd8fc1a573c4296c8e77629f3533de224f79820e2c5f11", func := "voussoir/voussoirlaw40.UndoFloor", spec := "undoFloor", inPlace := ["internal/bytealg.abigen_runtime_cmpstring"], unfollowed := true, recurses := true, plainKeys := false, apart := false }
def UndoFloorSaid : Prop := undoFloorRow.holds Try.pinned (OpenSpec.ofChange undoFloorSpec)

/-- ITS FALSE NEIGHBOUR: 'it returns false'. Refute it at one input. -/
def undoFloorWrong : ChangeSpec := { name := "undoFloor", fn := fun _ => fun
  | [d] => { results := [.lit (.bool false)], args := [d] }
  | _ => none }
def UndoFloorWrongFalsely : Prop := undoFloorRow.holds Try.pinned (OpenSpec.ofChange undoFloorWrong)

/-- 'voussoirlaw40.UndoVotesAndNotes': WHATEVER THE INPUT: true; the input reads as it did. -/
def undoVotesAndNotesSpec : ChangeSpec := { name := "undoVotesAndNotes", fn := fun _ => fun
  | [d] => { results := [.lit (.bool true)], args := [d] }
  | _ => none }
def undoVotesAndNotesRow : OpenClaim := { program := "ytahgddfnbjpfiaa", sum := "915c6aa0044de4efc6dd8fc1a573c4296c8e77629f3533de224f79820e2c5f11", func := "voussoir/voussoirlaw40.UndoVotesAndNotes", spec := "undoVotesAndNotes", inPlace := ["internal/bytealg.abigen_runtime_cmpstring"], unfollowed := true, recurses := true, plainKeys := false, apart := false }
def UndoVotesAndNotesSaid : Prop := undoVotesAndNotesRow.holds Try.pinned (OpenSpec.ofChange undoVotesAndNotesSpec)

/-- ITS FALSE NEIGHBOUR: 'it returns false'. Refute it at one input. -/
def undoVotesAndNotesWrong : ChangeSpec := { name := "undoVotesAndNotes", fn := fun _ => fun
  | [d] => { results := [.lit (.bool false)], args := [d] }
  | _ => none }
def UndoVotesAndNotesWrongFalsely : Prop := undoVotesAndNotesRow.holds Try.pinned (OpenSpec.ofChange undoVotesAndNotesWrong)

/- THE SECOND FORM. 'bulk': how many values and letters a reading holds, each counted each time it is reached (what is shared counts as often as it is met; a slice's spare places count too). A statement '..UptoSaid' is the law's where the arguments, and the package variables that the reading takes, are together of bulk at most 1048576: NARROWER than '..Said'. Prove '..Said' where nothing that the law and all that it calls make is longer than what came in: it says more and counts as full. Else prove '..UptoSaid'. A law counts once. -/
mutual
def uptoBulk {H : Type} : DataW H → Nat
  | .lit (.string bytes) => bytes.length + 1
  | .lit _ => 1
  | .nil => 1
  | .ptr d => uptoBulk d + 1
  | .slice elems spare => uptoBulkAll elems + uptoBulkAll spare + 1
  | .agg parts => uptoBulkAll parts + 1
  | .iface _ d => uptoBulk d + 1
  | .map entries => uptoBulkEntries entries + 1
  | .held _ => 1
def uptoBulkAll {H : Type} : List (DataW H) → Nat
  | [] => 0
  | d :: r => uptoBulk d + uptoBulkAll r
def uptoBulkEntries {H : Type} : List (Lit × DataW H) → Nat
  | [] => 0
  | x :: r => uptoBulkEntry x + uptoBulkEntries r
def uptoBulkEntry {H : Type} : Lit × DataW H → Nat
  | (.string bytes, d) => bytes.length + uptoBulk d + 1
  | (_, d) => uptoBulk d + 1
 end
def uptoSmall : (H : Type) → List (DataW H) → Bool := fun _ ds => decide (uptoBulkAll ds ≤ 1048576)
def OpenSpec.upto (s : _root_.Go.ChangeSpec) : _root_.Go.OpenSpec := { _root_.Go.OpenSpec.ofChange s with cond := some uptoSmall }

/-- 'voussoirlaw40.UndoResults', WHERE WHAT IT READS IS OF BULK AT MOST 1048576: true; the input reads as it did. -/
def undoResultsUptoRow : OpenClaim := { program := "ytahgddfnbjpfiaa", sum := "915c6aa0044de4efc6dd8fc1a573c4296c8e77629f3533de224f79820e2c5f11", func := "voussoir/voussoirlaw40.UndoResults", spec := "undoResults", inPlace := ["internal/bytealg.abigen_runtime_cmpstring"], unfollowed := true, recurses := true, plainKeys := false, apart := false, narrowed := true }
def UndoResultsUptoSaid : Prop := undoResultsUptoRow.holds Try.pinned (OpenSpec.upto undoResultsSpec)

/-- 'voussoirlaw40.UndoOwnEdits', WHERE WHAT IT READS IS OF BULK AT MOST 1048576: true; the input reads as it did. -/
def undoOwnEditsUptoRow : OpenClaim := { program := "ytahgddfnbjpfiaa", sum := "915c6aa0044de4efc6dd8fc1a573c4296c8e77629f3533de224f79820e2c5f11", func := "voussoir/voussoirlaw40.UndoOwnEdits", spec := "undoOwnEdits", inPlace := ["internal/bytealg.abigen_runtime_cmpstring"], unfollowed := true, recurses := true, plainKeys := false, apart := false, narrowed := true }
def UndoOwnEditsUptoSaid : Prop := undoOwnEditsUptoRow.holds Try.pinned (OpenSpec.upto undoOwnEditsSpec)

/-- 'voussoirlaw40.UndoUntargeted', WHERE WHAT IT READS IS OF BULK AT MOST 1048576: true; the input reads as it did. -/
def undoUntargetedUptoRow : OpenClaim := { program := "ytahgddfnbjpfiaa", sum := "915c6aa0044de4efc6dd8fc1a573c4296c8e77629f3533de224f79820e2c5f11", func := "voussoir/voussoirlaw40.UndoUntargeted", spec := "undoUntargeted", inPlace := ["internal/bytealg.abigen_runtime_cmpstring"], unfollowed := true, recurses := true, plainKeys := false, apart := false, narrowed := true }
def UndoUntargetedUptoSaid : Prop := undoUntargetedUptoRow.holds Try.pinned (OpenSpec.upto undoUntargetedSpec)

/-- 'voussoirlaw40.UndoRedo', WHERE WHAT IT READS IS OF BULK AT MOST 1048576: true; the input reads as it did. -/
def undoRedoUptoRow : OpenClaim := { program := "ytahgddfnbjpfiaa", sum := "915c6aa0044de4efc6dd8fc1a573c4296c8e77629f3533de224f79820e2c5f11", func := "voussoir/voussoirlaw40.UndoRedo", spec := "undoRedo", inPlace := ["internal/bytealg.abigen_runtime_cmpstring"], unfollowed := true, recurses := true, plainKeys := false, apart := false, narrowed := true }
def UndoRedoUptoSaid : Prop := undoRedoUptoRow.holds Try.pinned (OpenSpec.upto undoRedoSpec)

/-- 'voussoirlaw40.UndoFloor', WHERE WHAT IT READS IS OF BULK AT MOST 1048576: true; the input reads as it did. -/
def undoFloorUptoRow : OpenClaim := { program := "ytahgddfnbjpfiaa", sum := "915c6aa0044de4efc6dd8fc1a573c4296c8e77629f3533de224f79820e2c5f11", func := "voussoir/voussoirlaw40.UndoFloor", spec := "undoFloor", inPlace := ["internal/bytealg.abigen_runtime_cmpstring"], unfollowed := true, recurses := true, plainKeys := false, apart := false, narrowed := true }
def UndoFloorUptoSaid : Prop := undoFloorUptoRow.holds Try.pinned (OpenSpec.upto undoFloorSpec)

/-- 'voussoirlaw40.UndoVotesAndNotes', WHERE WHAT IT READS IS OF BULK AT MOST 1048576: true; the input reads as it did. -/
def undoVotesAndNotesUptoRow : OpenClaim := { program := "ytahgddfnbjpfiaa", sum := "915c6aa0044de4efc6dd8fc1a573c4296c8e77629f3533de224f79820e2c5f11", func := "voussoir/voussoirlaw40.UndoVotesAndNotes", spec := "undoVotesAndNotes", inPlace := ["internal/bytealg.abigen_runtime_cmpstring"], unfollowed := true, recurses := true, plainKeys := false, apart := false, narrowed := true }
def UndoVotesAndNotesUptoSaid : Prop := undoVotesAndNotesUptoRow.holds Try.pinned (OpenSpec.upto undoVotesAndNotesSpec)

end Rows
end Go.Proofs.Ytahgddfnbjpfiaa
