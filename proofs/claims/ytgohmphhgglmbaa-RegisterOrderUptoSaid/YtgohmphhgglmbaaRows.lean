/-
  No cell of these rows narrows 'for every input' (looked for: loops, veiled, ifaces, maps, wideKeys, modest, calm, conditions, laid).
  DERIVED. THE GIVEN ROWS OF THIS SEAT. 6 by the template 'for every input the law returns true; each argument reads behind the call as it read before'; 0 by the template 'total and deterministic' (their statements: YtgohmphhgglmbaaTotals.lean).
  GIVEN WITH THE SEED: the statements are not yours to turn. If you find one false, say at which input.
  Laid BY PROGRAM, IN A SANDBOX (cutbox-rows.mjs): the forced cells as the released guide's own fill.sh prints them over the translation 609fecdb1c3e285a… (all of the seat's roots in one cut). By AI agents, Wed Nov 11 2026. No macro, syntax, notation, axiom, sorry.
-/
import Derived.Test.YtgohmphhgglmbaaChecked
import GoSem.Claim
import GoSem.ClaimJoined
import GoSem.ClaimMapViews
import Derived.JoinedTies
import Derived.KernelRfl
namespace Go.Proofs.Ytgohmphhgglmbaa
/- THE CELL 'sum', in the pinned program and in every row, IS THE sha256 OF THE DUMP (.gsa) THAT YtgohmphhgglmbaaProg.lean LOADS. Nothing in Lean hashes anything: it is a label: what it is worth is what the hold of that sum in a sandbox is worth. -/
noncomputable def Try.pinned : Pinned := { name := "ytgohmphhgglmbaa", sum := "609fecdb1c3e285a3a0001e279008d950191903f000fdbe31a8d0a0af67e0073", checked := Try.checked }
namespace Rows
def none {H : Type} : Left H := { results := [], args := [] }

/-- 'voussoirlaw42.RegisterApplies': WHATEVER THE INPUT: true; the input reads as it did. -/
def registerAppliesSpec : ChangeSpec := { name := "registerApplies", fn := fun _ => fun
  | [d1, d2] => { results := [.lit (.bool true)], args := [d1, d2] }
  | _ => none }
def registerAppliesRow : OpenClaim := { program := "ytgohmphhgglmbaa", sum := "609fecdb1c3e285a3a0001e279008d950191903f000fdbe31a8d0a0af67e0073", func := "voussoir/voussoirlaw42.RegisterApplies", spec := "registerApplies", inPlace := ["internal/bytealg.abigen_runtime_cmpstring", "slices.overlaps[voussoir/api.Register]", "slices.overlaps[voussoir/api.Write]"], unfollowed := true, recurses := true, apart := false }
def RegisterAppliesSaid : Prop := registerAppliesRow.holds Try.pinned (OpenSpec.ofChange registerAppliesSpec)

/-- ITS FALSE NEIGHBOUR: 'it returns false'. Refute it at one input. -/
def registerAppliesWrong : ChangeSpec := { name := "registerApplies", fn := fun _ => fun
  | [d1, d2] => { results := [.lit (.bool false)], args := [d1, d2] }
  | _ => none }
def RegisterAppliesWrongFalsely : Prop := registerAppliesRow.holds Try.pinned (OpenSpec.ofChange registerAppliesWrong)

/-- 'voussoirlaw42.RegisterLookups': WHATEVER THE INPUT: true; the input reads as it did. -/
def registerLookupsSpec : ChangeSpec := { name := "registerLookups", fn := fun _ => fun
  | [d1, d2, d3] => { results := [.lit (.bool true)], args := [d1, d2, d3] }
  | _ => none }
def registerLookupsRow : OpenClaim := { program := "ytgohmphhgglmbaa", sum := "609fecdb1c3e285a3a0001e279008d950191903f000fdbe31a8d0a0af67e0073", func := "voussoir/voussoirlaw42.RegisterLookups", spec := "registerLookups", inPlace := ["internal/bytealg.abigen_runtime_cmpstring", "slices.overlaps[voussoir/api.Register]", "slices.overlaps[voussoir/api.Write]"], unfollowed := true, recurses := true, apart := false }
def RegisterLookupsSaid : Prop := registerLookupsRow.holds Try.pinned (OpenSpec.ofChange registerLookupsSpec)

/-- ITS FALSE NEIGHBOUR: 'it returns false'. Refute it at one input. -/
def registerLookupsWrong : ChangeSpec := { name := "registerLookups", fn := fun _ => fun
  | [d1, d2, d3] => { results := [.lit (.bool false)], args := [d1, d2, d3] }
  | _ => none }
def RegisterLookupsWrongFalsely : Prop := registerLookupsRow.holds Try.pinned (OpenSpec.ofChange registerLookupsWrong)

/-- 'voussoirlaw42.RegisterOrder': WHATEVER THE INPUT: true; the input reads as it did. -/
def registerOrderSpec : ChangeSpec := { name := "registerOrder", fn := fun _ => fun
  | [d1, d2, d3] => { results := [.lit (.bool true)], args := [d1, d2, d3] }
  | _ => none }
def registerOrderRow : OpenClaim := { program := "ytgohmphhgglmbaa", sum := "609fecdb1c3e285a3a0001e279008d950191903f000fdbe31a8d0a0af67e0073", func := "voussoir/voussoirlaw42.RegisterOrder", spec := "registerOrder", inPlace := ["internal/bytealg.abigen_runtime_cmpstring", "slices.overlaps[voussoir/api.Register]", "slices.overlaps[voussoir/api.Write]"], unfollowed := true, recurses := true, apart := false }
def RegisterOrderSaid : Prop := registerOrderRow.holds Try.pinned (OpenSpec.ofChange registerOrderSpec)

/-- ITS FALSE NEIGHBOUR: 'it returns false'. Refute it at one input. -/
def registerOrderWrong : ChangeSpec := { name := "registerOrder", fn := fun _ => fun
  | [d1, d2, d3] => { results := [.lit (.bool false)], args := [d1, d2, d3] }
  | _ => none }
def RegisterOrderWrongFalsely : Prop := registerOrderRow.holds Try.pinned (OpenSpec.ofChange registerOrderWrong)

/-- 'voussoirlaw42.RegisterReplaces': WHATEVER THE INPUT: true; the input reads as it did. -/
def registerReplacesSpec : ChangeSpec := { name := "registerReplaces", fn := fun _ => fun
  | [d1, d2] => { results := [.lit (.bool true)], args := [d1, d2] }
  | _ => none }
def registerReplacesRow : OpenClaim := { program := "ytgohmphhgglmbaa", sum := "609fecdb1c3e285a3a0001e279008d950191903f000fdbe31a8d0a0af67e0073", func := "voussoir/voussoirlaw42.RegisterReplaces", spec := "registerReplaces", inPlace := ["internal/bytealg.abigen_runtime_cmpstring", "slices.overlaps[voussoir/api.Register]", "slices.overlaps[voussoir/api.Write]"], unfollowed := true, recurses := true, apart := false }
def RegisterReplacesSaid : Prop := registerReplacesRow.holds Try.pinned (OpenSpec.ofChange registerReplacesSpec)

/-- ITS FALSE NEIGHBOUR: 'it returns false'. Refute it at one input. -/
def registerReplacesWrong : ChangeSpec := { name := "registerReplaces", fn := fun _ => fun
  | [d1, d2] => { results := [.lit (.bool false)], args := [d1, d2] }
  | _ => none }
def RegisterReplacesWrongFalsely : Prop := registerReplacesRow.holds Try.pinned (OpenSpec.ofChange registerReplacesWrong)

/-- 'voussoirlaw42.RegisterIncremental': WHATEVER THE INPUT: true; the input reads as it did. -/
def registerIncrementalSpec : ChangeSpec := { name := "registerIncremental", fn := fun _ => fun
  | [d1, d2, d3] => { results := [.lit (.bool true)], args := [d1, d2, d3] }
  | _ => none }
def registerIncrementalRow : OpenClaim := { program := "ytgohmphhgglmbaa", sum := "609fecdb1c3e285a3a0001e279008d950191903f000fdbe31a8d0a0af67e0073", func := "voussoir/voussoirlaw42.RegisterIncremental", spec := "registerIncremental", inPlace := ["internal/bytealg.abigen_runtime_cmpstring", "slices.overlaps[voussoir/api.Register]", "slices.overlaps[voussoir/api.Write]"], unfollowed := true, recurses := true, apart := false }
def RegisterIncrementalSaid : Prop := registerIncrementalRow.holds Try.pinned (OpenSpec.ofChange registerIncrementalSpec)

/-- ITS FALSE NEIGHBOUR: 'it returns false'. Refute it at one input. -/
def registerIncrementalWrong : ChangeSpec := { name := "registerIncremental", fn := fun _ => fun
  | [d1, d2, d3] => { results := [.lit (.bool false)], args := [d1, d2, d3] }
  | _ => none }
def RegisterIncrementalWrongFalsely : Prop := registerIncrementalRow.holds Try.pinned (OpenSpec.ofChange registerIncrementalWrong)

/-- 'voussoirlaw42.RegisterIdempotence': WHATEVER THE INPUT: true; the input reads as it did. -/
def registerIdempotenceSpec : ChangeSpec := { name := "registerIdempotence", fn := fun _ => fun
  | [d1, d2] => { results := [.lit (.bool true)], args := [d1, d2] }
  | _ => none }
def registerIdempotenceRow : OpenClaim := { program := "ytgohmphhgglmbaa", sum := "609fecdb1c3e285a3a0001e279008d950191903f000fdbe31a8d0a0af67e0073", func := "voussoir/voussoirlaw42.RegisterIdempotence", spec := "registerIdempotence", inPlace := ["internal/bytealg.abigen_runtime_cmpstring", "slices.overlaps[voussoir/api.Register]", "slices.overlaps[voussoir/api.Write]"], unfollowed := true, recurses := true, apart := false }
def RegisterIdempotenceSaid : Prop := registerIdempotenceRow.holds Try.pinned (OpenSpec.ofChange registerIdempotenceSpec)

/-- ITS FALSE NEIGHBOUR: 'it returns false'. Refute it at one input. -/
def registerIdempotenceWrong : ChangeSpec := { name := "registerIdempotence", fn := fun _ => fun
  | [d1, d2] => { results := [.lit (.bool false)], args := [d1, d2] }
  | _ => none }
def RegisterIdempotenceWrongFalsely : Prop := registerIdempotenceRow.holds Try.pinned (OpenSpec.ofChange registerIdempotenceWrong)

/- THE SECOND FORM. 'bulk': how many values and letters a reading holds, each counted each time it is reached (what is shared counts as often as it is met; a slice's spare places count too). A statement '..UptoSaid' is the law's where the arguments, and the package variables that the reading takes, are together of bulk at most 1048576: NARROWER than '..Said'. Prove '..Said' where nothing that the law and all that it calls make is longer than what came in: it says more and counts as full. Else prove '..UptoSaid'. A law counts once. -/
mutual
def uptoBulk {H : Type} : DataW H → Nat
  | .lit (.string bytes) => bytes.length + 1
  | .lit _ => 1
  | .nil => 1
  | .ptr d => uptoBulk d + 1
  | .slice elems spare => uptoBulkAll elems + uptoBulkAll spare + 1
  | .agg parts => uptoBulkAll parts + 1
  | .iface _ d => uptoBulk d + 1
  | .map entries => uptoBulkEntries entries + 1
  | .held _ => 1
def uptoBulkAll {H : Type} : List (DataW H) → Nat
  | [] => 0
  | d :: r => uptoBulk d + uptoBulkAll r
def uptoBulkEntries {H : Type} : List (Lit × DataW H) → Nat
  | [] => 0
  | x :: r => uptoBulkEntry x + uptoBulkEntries r
def uptoBulkEntry {H : Type} : Lit × DataW H → Nat
  | (.string bytes, d) => bytes.length + uptoBulk d + 1
  | (_, d) => uptoBulk d + 1
 end
def uptoSmall : (H : Type) → List (DataW H) → Bool := fun _ ds => decide (uptoBulkAll ds ≤ 1048576)
def OpenSpec.upto (s : _root_.Go.ChangeSpec) : _root_.Go.OpenSpec := { _root_.Go.OpenSpec.ofChange s with cond := some uptoSmall }

/-- 'voussoirlaw42.RegisterApplies', WHERE WHAT IT READS IS OF BULK AT MOST 1048576: true; the input reads as it did. -/
def registerAppliesUptoRow : OpenClaim := { program := "ytgohmphhgglmbaa", sum := "609fecdb1c3e285a3a0001e279008d950191903f000fdbe31a8d0a0af67e0073", func := "voussoir/voussoirlaw42.RegisterApplies", spec := "registerApplies", inPlace := ["internal/bytealg.abigen_runtime_cmpstring", "slices.overlaps[voussoir/api.Register]", "slices.overlaps[voussoir/api.Write]"], unfollowed := true, recurses := true, apart := false, narrowed := true }
def RegisterAppliesUptoSaid : Prop := registerAppliesUptoRow.holds Try.pinned (OpenSpec.upto registerAppliesSpec)

/-- 'voussoirlaw42.RegisterLookups', WHERE WHAT IT READS IS OF BULK AT MOST 1048576: true; the input reads as it did. -/
def registerLookupsUptoRow : OpenClaim := { program := "ytgohmphhgglmbaa", sum := "609fecdb1c3e285a3a0001e279008d950191903f000fdbe31a8d0a0af67e0073", func := "voussoir/voussoirlaw42.RegisterLookups", spec := "registerLookups", inPlace := ["internal/bytealg.abigen_runtime_cmpstring", "slices.overlaps[voussoir/api.Register]", "slices.overlaps[voussoir/api.Write]"], unfollowed := true, recurses := true, apart := false, narrowed := true }
def RegisterLookupsUptoSaid : Prop := registerLookupsUptoRow.holds Try.pinned (OpenSpec.upto registerLookupsSpec)

/-- 'voussoirlaw42.RegisterOrder', WHERE WHAT IT READS IS OF BULK AT MOST 1048576: true; the input reads as it did. -/
def registerOrderUptoRow : OpenClaim := { program := "ytgohmphhgglmbaa", sum := "609fecdb1c3e285a3a0001e279008d950191903f000fdbe31a8d0a0af67e0073", func := "voussoir/voussoirlaw42.RegisterOrder", spec := "registerOrder", inPlace := ["internal/bytealg.abigen_runtime_cmpstring", "slices.overlaps[voussoir/api.Register]", "slices.overlaps[voussoir/api.Write]"], unfollowed := true, recurses := true, apart := false, narrowed := true }
def RegisterOrderUptoSaid : Prop := registerOrderUptoRow.holds Try.pinned (OpenSpec.upto registerOrderSpec)

/-- 'voussoirlaw42.RegisterReplaces', WHERE WHAT IT READS IS OF BULK AT MOST 1048576: true; the input reads as it did. -/
def registerReplacesUptoRow : OpenClaim := { program := "ytgohmphhgglmbaa", sum := "609fecdb1c3e285a3a0001e279008d950191903f000fdbe31a8d0a0af67e0073", func := "voussoir/voussoirlaw42.RegisterReplaces", spec := "registerReplaces", inPlace := ["internal/bytealg.abigen_runtime_cmpstring", "slices.overlaps[voussoir/api.Register]", "slices.overlaps[voussoir/api.Write]"], unfollowed := true, recurses := true, apart := false, narrowed := true }
def RegisterReplacesUptoSaid : Prop := registerReplacesUptoRow.holds Try.pinned (OpenSpec.upto registerReplacesSpec)

/-- 'voussoirlaw42.RegisterIncremental', WHERE WHAT IT READS IS OF BULK AT MOST 1048576: true; the input reads as it did. -/
def registerIncrementalUptoRow : OpenClaim := { program := "ytgohmphhgglmbaa", sum := "609fecdb1c3e285a3a0001e279008d950191903f000fdbe31a8d0a0af67e0073", func := "voussoir/voussoirlaw42.RegisterIncremental", spec := "registerIncremental", inPlace := ["internal/bytealg.abigen_runtime_cmpstring", "slices.overlaps[voussoir/api.Register]", "slices.overlaps[voussoir/api.Write]"], unfollowed := true, recurses := true, apart := false, narrowed := true }
def RegisterIncrementalUptoSaid : Prop := registerIncrementalUptoRow.holds Try.pinned (OpenSpec.upto registerIncrementalSpec)

/-- 'voussoirlaw42.RegisterIdempotence', WHERE WHAT IT READS IS OF BULK AT MOST 1048576: true; the input reads as it did. -/
def registerIdempotenceUptoRow : OpenClaim := { program := "ytgohmphhgglmbaa", sum := "609fecdb1c3e285a3a0001e279008d950191903f000fdbe31a8d0a0af67e0073", func := "voussoir/voussoirlaw42.RegisterIdempotence", spec := "registerIdempotence", inPlace := ["internal/bytealg.abigen_runtime_cmpstring", "slices.overlaps[voussoir/api.Register]", "slices.overlaps[voussoir/api.Write]"], unfollowed := true, recurses := true, apart := false, narrowed := true }
def RegisterIdempotenceUptoSaid : Prop := registerIdempotenceUptoRow.holds Try.pinned (OpenSpec.upto registerIdempotenceSpec)

end Rows
end Go.Proofs.Ytgohmphhgglmbaa
