/-
  No cell of these rows narrows 'for every input' (looked for: loops, veiled, ifaces, maps, wideKeys, modest, calm, conditions, laid).
  DERIVED. THE GIVEN ROWS OF THIS SEAT. 12 by the template 'for every input the law returns true; each argument reads behind the call as it read before'; 0 by the template 'total and deterministic' (their statements: YtcamhpknmbohnaaTotals.lean).
  GIVEN WITH THE SEED: the statements are not yours to turn. If you find one false, say at which input.
  Laid BY PROGRAM, IN A SANDBOX (cutbox-rows.mjs): the forced cells as the released guide's own fill.sh prints them over the translation b9e0673a288fcc89… (all of the seat's roots in one cut). By AI agents, Wed Nov 11 2026. No macro, syntax, notation, axiom, sorry.
-/
import Derived.Test.YtcamhpknmbohnaaChecked
import GoSem.Claim
import GoSem.ClaimJoined
import GoSem.ClaimMapViews
import Derived.JoinedTies
import Derived.KernelRfl
namespace Go.Proofs.Ytcamhpknmbohnaa
/- THE CELL 'sum', in the pinned program and in every row, IS THE sha256 OF THE DUMP (.gsa) THAT YtcamhpknmbohnaaProg.lean LOADS. Nothing in Lean hashes anything: it is a label: what it is worth is what the hold of that sum in a sandbox is worth. -/
noncomputable def Try.pinned : Pinned := { name := "ytcamhpknmbohnaa", sum := "b9e0673a288fcc890f93b2edbe9318991b8c8fb0045ff176faa0361a2f0ce078", checked := Try.checked }
namespace Rows
def none {H : Type} : Left H := { results := [], args := [] }

/-- 'laws.FnExchanged': WHATEVER THE INPUT: true; the input reads as it did. -/
def fnExchangedSpec : ChangeSpec := { name := "fnExchanged", fn := fun _ => fun
  | [d] => { results := [.lit (.bool true)], args := [d] }
  | _ => none }
def fnExchangedRow : OpenClaim := { program := "ytcamhpknmbohnaa", sum := "b9e0673a288fcc890f93b2edbe9318991b8c8fb0045ff176faa0361a2f0ce078", func := "loop.example/g01041/laws.FnExchanged", spec := "fnExchanged", unfollowed := true, recurses := true, apart := false }
def FnExchangedSaid : Prop := fnExchangedRow.holds Try.pinned (OpenSpec.ofChange fnExchangedSpec)

/-- ITS FALSE NEIGHBOUR: 'it returns false'. Refute it at one input. -/
def fnExchangedWrong : ChangeSpec := { name := "fnExchanged", fn := fun _ => fun
  | [d] => { results := [.lit (.bool false)], args := [d] }
  | _ => none }
def FnExchangedWrongFalsely : Prop := fnExchangedRow.holds Try.pinned (OpenSpec.ofChange fnExchangedWrong)

/-- 'laws.FnGraphs': WHATEVER THE INPUT: true; the input reads as it did. -/
def fnGraphsSpec : ChangeSpec := { name := "fnGraphs", fn := fun _ => fun
  | [d] => { results := [.lit (.bool true)], args := [d] }
  | _ => none }
def fnGraphsRow : OpenClaim := { program := "ytcamhpknmbohnaa", sum := "b9e0673a288fcc890f93b2edbe9318991b8c8fb0045ff176faa0361a2f0ce078", func := "loop.example/g01041/laws.FnGraphs", spec := "fnGraphs", unfollowed := true, recurses := true, apart := false }
def FnGraphsSaid : Prop := fnGraphsRow.holds Try.pinned (OpenSpec.ofChange fnGraphsSpec)

/-- ITS FALSE NEIGHBOUR: 'it returns false'. Refute it at one input. -/
def fnGraphsWrong : ChangeSpec := { name := "fnGraphs", fn := fun _ => fun
  | [d] => { results := [.lit (.bool false)], args := [d] }
  | _ => none }
def FnGraphsWrongFalsely : Prop := fnGraphsRow.holds Try.pinned (OpenSpec.ofChange fnGraphsWrong)

/-- 'laws.FnGraphCounts': WHATEVER THE INPUT: true; the input reads as it did. -/
def fnGraphCountsSpec : ChangeSpec := { name := "fnGraphCounts", fn := fun _ => fun
  | [d] => { results := [.lit (.bool true)], args := [d] }
  | _ => none }
def fnGraphCountsRow : OpenClaim := { program := "ytcamhpknmbohnaa", sum := "b9e0673a288fcc890f93b2edbe9318991b8c8fb0045ff176faa0361a2f0ce078", func := "loop.example/g01041/laws.FnGraphCounts", spec := "fnGraphCounts", unfollowed := true, recurses := true, apart := false }
def FnGraphCountsSaid : Prop := fnGraphCountsRow.holds Try.pinned (OpenSpec.ofChange fnGraphCountsSpec)

/-- ITS FALSE NEIGHBOUR: 'it returns false'. Refute it at one input. -/
def fnGraphCountsWrong : ChangeSpec := { name := "fnGraphCounts", fn := fun _ => fun
  | [d] => { results := [.lit (.bool false)], args := [d] }
  | _ => none }
def FnGraphCountsWrongFalsely : Prop := fnGraphCountsRow.holds Try.pinned (OpenSpec.ofChange fnGraphCountsWrong)

/-- 'laws.FnPartitions': WHATEVER THE INPUT: true; the input reads as it did. -/
def fnPartitionsSpec : ChangeSpec := { name := "fnPartitions", fn := fun _ => fun
  | [d] => { results := [.lit (.bool true)], args := [d] }
  | _ => none }
def fnPartitionsRow : OpenClaim := { program := "ytcamhpknmbohnaa", sum := "b9e0673a288fcc890f93b2edbe9318991b8c8fb0045ff176faa0361a2f0ce078", func := "loop.example/g01041/laws.FnPartitions", spec := "fnPartitions", unfollowed := true, recurses := true, apart := false }
def FnPartitionsSaid : Prop := fnPartitionsRow.holds Try.pinned (OpenSpec.ofChange fnPartitionsSpec)

/-- ITS FALSE NEIGHBOUR: 'it returns false'. Refute it at one input. -/
def fnPartitionsWrong : ChangeSpec := { name := "fnPartitions", fn := fun _ => fun
  | [d] => { results := [.lit (.bool false)], args := [d] }
  | _ => none }
def FnPartitionsWrongFalsely : Prop := fnPartitionsRow.holds Try.pinned (OpenSpec.ofChange fnPartitionsWrong)

/-- 'laws.FnExactNewConsole': WHATEVER THE INPUT: true; the input reads as it did. -/
def fnExactNewConsoleSpec : ChangeSpec := { name := "fnExactNewConsole", fn := fun _ => fun
  | [] => { results := [.lit (.bool true)], args := [] }
  | _ => none }
def fnExactNewConsoleRow : OpenClaim := { program := "ytcamhpknmbohnaa", sum := "b9e0673a288fcc890f93b2edbe9318991b8c8fb0045ff176faa0361a2f0ce078", func := "loop.example/g01041/laws.FnExactNewConsole", spec := "fnExactNewConsole", unfollowed := true, recurses := true, apart := false }
def FnExactNewConsoleSaid : Prop := fnExactNewConsoleRow.holds Try.pinned (OpenSpec.ofChange fnExactNewConsoleSpec)

/-- ITS FALSE NEIGHBOUR: 'it returns false'. Refute it at one input. -/
def fnExactNewConsoleWrong : ChangeSpec := { name := "fnExactNewConsole", fn := fun _ => fun
  | [] => { results := [.lit (.bool false)], args := [] }
  | _ => none }
def FnExactNewConsoleWrongFalsely : Prop := fnExactNewConsoleRow.holds Try.pinned (OpenSpec.ofChange fnExactNewConsoleWrong)

/-- 'laws.FnExactCountExchange': WHATEVER THE INPUT: true; the input reads as it did. -/
def fnExactCountExchangeSpec : ChangeSpec := { name := "fnExactCountExchange", fn := fun _ => fun
  | [d1, d2] => { results := [.lit (.bool true)], args := [d1, d2] }
  | _ => none }
def fnExactCountExchangeRow : OpenClaim := { program := "ytcamhpknmbohnaa", sum := "b9e0673a288fcc890f93b2edbe9318991b8c8fb0045ff176faa0361a2f0ce078", func := "loop.example/g01041/laws.FnExactCountExchange", spec := "fnExactCountExchange", unfollowed := true, recurses := true, apart := false }
def FnExactCountExchangeSaid : Prop := fnExactCountExchangeRow.holds Try.pinned (OpenSpec.ofChange fnExactCountExchangeSpec)

/-- ITS FALSE NEIGHBOUR: 'it returns false'. Refute it at one input. -/
def fnExactCountExchangeWrong : ChangeSpec := { name := "fnExactCountExchange", fn := fun _ => fun
  | [d1, d2] => { results := [.lit (.bool false)], args := [d1, d2] }
  | _ => none }
def FnExactCountExchangeWrongFalsely : Prop := fnExactCountExchangeRow.holds Try.pinned (OpenSpec.ofChange fnExactCountExchangeWrong)

/-- 'laws.FnExactIndexLine': WHATEVER THE INPUT: true; the input reads as it did. -/
def fnExactIndexLineSpec : ChangeSpec := { name := "fnExactIndexLine", fn := fun _ => fun
  | [d] => { results := [.lit (.bool true)], args := [d] }
  | _ => none }
def fnExactIndexLineRow : OpenClaim := { program := "ytcamhpknmbohnaa", sum := "b9e0673a288fcc890f93b2edbe9318991b8c8fb0045ff176faa0361a2f0ce078", func := "loop.example/g01041/laws.FnExactIndexLine", spec := "fnExactIndexLine", inPlace := ["internal/abi.NoEscape", "internal/bytealg.MakeNoZero"], unfollowed := true, recurses := true, apart := false }
def FnExactIndexLineSaid : Prop := fnExactIndexLineRow.holds Try.pinned (OpenSpec.ofChange fnExactIndexLineSpec)

/-- ITS FALSE NEIGHBOUR: 'it returns false'. Refute it at one input. -/
def fnExactIndexLineWrong : ChangeSpec := { name := "fnExactIndexLine", fn := fun _ => fun
  | [d] => { results := [.lit (.bool false)], args := [d] }
  | _ => none }
def FnExactIndexLineWrongFalsely : Prop := fnExactIndexLineRow.holds Try.pinned (OpenSpec.ofChange fnExactIndexLineWrong)

/-- 'laws.FnIndex': WHATEVER THE INPUT: true; the input reads as it did. -/
def fnIndexSpec : ChangeSpec := { name := "fnIndex", fn := fun _ => fun
  | [d] => { results := [.lit (.bool true)], args := [d] }
  | _ => none }
def fnIndexRow : OpenClaim := { program := "ytcamhpknmbohnaa", sum := "b9e0673a288fcc890f93b2edbe9318991b8c8fb0045ff176faa0361a2f0ce078", func := "loop.example/g01041/laws.FnIndex", spec := "fnIndex", inPlace := ["internal/abi.NoEscape", "internal/bytealg.MakeNoZero"], unfollowed := true, recurses := true, apart := false }
def FnIndexSaid : Prop := fnIndexRow.holds Try.pinned (OpenSpec.ofChange fnIndexSpec)

/-- ITS FALSE NEIGHBOUR: 'it returns false'. Refute it at one input. -/
def fnIndexWrong : ChangeSpec := { name := "fnIndex", fn := fun _ => fun
  | [d] => { results := [.lit (.bool false)], args := [d] }
  | _ => none }
def FnIndexWrongFalsely : Prop := fnIndexRow.holds Try.pinned (OpenSpec.ofChange fnIndexWrong)

/-- 'laws.FnExactCountLine': WHATEVER THE INPUT: true; the input reads as it did. -/
def fnExactCountLineSpec : ChangeSpec := { name := "fnExactCountLine", fn := fun _ => fun
  | [d1, d2] => { results := [.lit (.bool true)], args := [d1, d2] }
  | _ => none }
def fnExactCountLineRow : OpenClaim := { program := "ytcamhpknmbohnaa", sum := "b9e0673a288fcc890f93b2edbe9318991b8c8fb0045ff176faa0361a2f0ce078", func := "loop.example/g01041/laws.FnExactCountLine", spec := "fnExactCountLine", unfollowed := true, recurses := true, apart := false }
def FnExactCountLineSaid : Prop := fnExactCountLineRow.holds Try.pinned (OpenSpec.ofChange fnExactCountLineSpec)

/-- ITS FALSE NEIGHBOUR: 'it returns false'. Refute it at one input. -/
def fnExactCountLineWrong : ChangeSpec := { name := "fnExactCountLine", fn := fun _ => fun
  | [d1, d2] => { results := [.lit (.bool false)], args := [d1, d2] }
  | _ => none }
def FnExactCountLineWrongFalsely : Prop := fnExactCountLineRow.holds Try.pinned (OpenSpec.ofChange fnExactCountLineWrong)

/-- 'laws.FnComplements': WHATEVER THE INPUT: true; the input reads as it did. -/
def fnComplementsSpec : ChangeSpec := { name := "fnComplements", fn := fun _ => fun
  | [d] => { results := [.lit (.bool true)], args := [d] }
  | _ => none }
def fnComplementsRow : OpenClaim := { program := "ytcamhpknmbohnaa", sum := "b9e0673a288fcc890f93b2edbe9318991b8c8fb0045ff176faa0361a2f0ce078", func := "loop.example/g01041/laws.FnComplements", spec := "fnComplements", unfollowed := true, recurses := true, apart := false }
def FnComplementsSaid : Prop := fnComplementsRow.holds Try.pinned (OpenSpec.ofChange fnComplementsSpec)

/-- ITS FALSE NEIGHBOUR: 'it returns false'. Refute it at one input. -/
def fnComplementsWrong : ChangeSpec := { name := "fnComplements", fn := fun _ => fun
  | [d] => { results := [.lit (.bool false)], args := [d] }
  | _ => none }
def FnComplementsWrongFalsely : Prop := fnComplementsRow.holds Try.pinned (OpenSpec.ofChange fnComplementsWrong)

/-- 'laws.FnTrees': WHATEVER THE INPUT: true; the input reads as it did. -/
def fnTreesSpec : ChangeSpec := { name := "fnTrees", fn := fun _ => fun
  | [d] => { results := [.lit (.bool true)], args := [d] }
  | _ => none }
def fnTreesRow : OpenClaim := { program := "ytcamhpknmbohnaa", sum := "b9e0673a288fcc890f93b2edbe9318991b8c8fb0045ff176faa0361a2f0ce078", func := "loop.example/g01041/laws.FnTrees", spec := "fnTrees", inPlace := ["internal/abi.NoEscape", "internal/bytealg.MakeNoZero", "internal/bytealg.abigen_runtime_cmpstring"], unfollowed := true, recurses := true, apart := false }
def FnTreesSaid : Prop := fnTreesRow.holds Try.pinned (OpenSpec.ofChange fnTreesSpec)

/-- ITS FALSE NEIGHBOUR: 'it returns false'. Refute it at one input. -/
def fnTreesWrong : ChangeSpec := { name := "fnTrees", fn := fun _ => fun
  | [d] => { results := [.lit (.bool false)], args := [d] }
  | _ => none }
def FnTreesWrongFalsely : Prop := fnTreesRow.holds Try.pinned (OpenSpec.ofChange fnTreesWrong)

/-- 'laws.FnExactCountGraphsWith': WHATEVER THE INPUT: true; the input reads as it did. -/
def fnExactCountGraphsWithSpec : ChangeSpec := { name := "fnExactCountGraphsWith", fn := fun _ => fun
  | [d1, d2] => { results := [.lit (.bool true)], args := [d1, d2] }
  | _ => none }
def fnExactCountGraphsWithRow : OpenClaim := { program := "ytcamhpknmbohnaa", sum := "b9e0673a288fcc890f93b2edbe9318991b8c8fb0045ff176faa0361a2f0ce078", func := "loop.example/g01041/laws.FnExactCountGraphsWith", spec := "fnExactCountGraphsWith", unfollowed := true, recurses := true, apart := false }
def FnExactCountGraphsWithSaid : Prop := fnExactCountGraphsWithRow.holds Try.pinned (OpenSpec.ofChange fnExactCountGraphsWithSpec)

/-- ITS FALSE NEIGHBOUR: 'it returns false'. Refute it at one input. -/
def fnExactCountGraphsWithWrong : ChangeSpec := { name := "fnExactCountGraphsWith", fn := fun _ => fun
  | [d1, d2] => { results := [.lit (.bool false)], args := [d1, d2] }
  | _ => none }
def FnExactCountGraphsWithWrongFalsely : Prop := fnExactCountGraphsWithRow.holds Try.pinned (OpenSpec.ofChange fnExactCountGraphsWithWrong)

/- THE SECOND FORM. 'bulk': how many values and letters a reading holds, each counted each time it is reached (what is shared counts as often as it is met; a slice's spare places count too). A statement '..UptoSaid' is the law's where the arguments, and the package variables that the reading takes, are together of bulk at most 1048576: NARROWER than '..Said'. Prove '..Said' where nothing that the law and all that it calls make is longer than what came in: it says more and counts as full. Else prove '..UptoSaid'. A law counts once. -/
mutual
def uptoBulk {H : Type} : DataW H → Nat
  | .lit (.string bytes) => bytes.length + 1
  | .lit _ => 1
  | .nil => 1
  | .ptr d => uptoBulk d + 1
  | .slice elems spare => uptoBulkAll elems + uptoBulkAll spare + 1
  | .agg parts => uptoBulkAll parts + 1
  | .iface _ d => uptoBulk d + 1
  | .map entries => uptoBulkEntries entries + 1
  | .held _ => 1
def uptoBulkAll {H : Type} : List (DataW H) → Nat
  | [] => 0
  | d :: r => uptoBulk d + uptoBulkAll r
def uptoBulkEntries {H : Type} : List (Lit × DataW H) → Nat
  | [] => 0
  | x :: r => uptoBulkEntry x + uptoBulkEntries r
def uptoBulkEntry {H : Type} : Lit × DataW H → Nat
  | (.string bytes, d) => bytes.length + uptoBulk d + 1
  | (_, d) => uptoBulk d + 1
 end
def uptoSmall : (H : Type) → List (DataW H) → Bool := fun _ ds => decide (uptoBulkAll ds ≤ 1048576)
def OpenSpec.upto (s : _root_.Go.ChangeSpec) : _root_.Go.OpenSpec := { _root_.Go.OpenSpec.ofChange s with cond := some uptoSmall }

/-- 'laws.FnExchanged', WHERE WHAT IT READS IS OF BULK AT MOST 1048576: true; the input reads as it did. -/
def fnExchangedUptoRow : OpenClaim := { program := "ytcamhpknmbohnaa", sum := "b9e0673a288fcc890f93b2edbe9318991b8c8fb0045ff176faa0361a2f0ce078", func := "loop.example/g01041/laws.FnExchanged", spec := "fnExchanged", unfollowed := true, recurses := true, apart := false, narrowed := true }
def FnExchangedUptoSaid : Prop := fnExchangedUptoRow.holds Try.pinned (OpenSpec.upto fnExchangedSpec)

/-- 'laws.FnGraphs', WHERE WHAT IT READS IS OF BULK AT MOST 1048576: true; the input reads as it did. -/
def fnGraphsUptoRow : OpenClaim := { program := "ytcamhpknmbohnaa", sum := "b9e0673a288fcc890f93b2edbe9318991b8c8fb0045ff176faa0361a2f0ce078", func := "loop.example/g01041/laws.FnGraphs", spec := "fnGraphs", unfollowed := true, recurses := true, apart := false, narrowed := true }
def FnGraphsUptoSaid : Prop := fnGraphsUptoRow.holds Try.pinned (OpenSpec.upto fnGraphsSpec)

/-- 'laws.FnGraphCounts', WHERE WHAT IT READS IS OF BULK AT MOST 1048576: true; the input reads as it did. -/
def fnGraphCountsUptoRow : OpenClaim := { program := "ytcamhpknmbohnaa", sum := "b9e0673a288fcc890f93b2edbe9318991b8c8fb0045ff176faa0361a2f0ce078", func := "loop.example/g01041/laws.FnGraphCounts", spec := "fnGraphCounts", unfollowed := true, recurses := true, apart := false, narrowed := true }
def FnGraphCountsUptoSaid : Prop := fnGraphCountsUptoRow.holds Try.pinned (OpenSpec.upto fnGraphCountsSpec)

/-- 'laws.FnPartitions', WHERE WHAT IT READS IS OF BULK AT MOST 1048576: true; the input reads as it did. -/
def fnPartitionsUptoRow : OpenClaim := { program := "ytcamhpknmbohnaa", sum := "b9e0673a288fcc890f93b2edbe9318991b8c8fb0045ff176faa0361a2f0ce078", func := "loop.example/g01041/laws.FnPartitions", spec := "fnPartitions", unfollowed := true, recurses := true, apart := false, narrowed := true }
def FnPartitionsUptoSaid : Prop := fnPartitionsUptoRow.holds Try.pinned (OpenSpec.upto fnPartitionsSpec)

/-- 'laws.FnExactNewConsole', WHERE WHAT IT READS IS OF BULK AT MOST 1048576: true; the input reads as it did. -/
def fnExactNewConsoleUptoRow : OpenClaim := { program := "ytcamhpknmbohnaa", sum := "b9e0673a288fcc890f93b2edbe9318991b8c8fb0045ff176faa0361a2f0ce078", func := "loop.example/g01041/laws.FnExactNewConsole", spec := "fnExactNewConsole", unfollowed := true, recurses := true, apart := false, narrowed := true }
def FnExactNewConsoleUptoSaid : Prop := fnExactNewConsoleUptoRow.holds Try.pinned (OpenSpec.upto fnExactNewConsoleSpec)

/-- 'laws.FnExactCountExchange', WHERE WHAT IT READS IS OF BULK AT MOST 1048576: true; the input reads as it did. -/
def fnExactCountExchangeUptoRow : OpenClaim := { program := "ytcamhpknmbohnaa", sum := "b9e0673a288fcc890f93b2edbe9318991b8c8fb0045ff176faa0361a2f0ce078", func := "loop.example/g01041/laws.FnExactCountExchange", spec := "fnExactCountExchange", unfollowed := true, recurses := true, apart := false, narrowed := true }
def FnExactCountExchangeUptoSaid : Prop := fnExactCountExchangeUptoRow.holds Try.pinned (OpenSpec.upto fnExactCountExchangeSpec)

/-- 'laws.FnExactIndexLine', WHERE WHAT IT READS IS OF BULK AT MOST 1048576: true; the input reads as it did. -/
def fnExactIndexLineUptoRow : OpenClaim := { program := "ytcamhpknmbohnaa", sum := "b9e0673a288fcc890f93b2edbe9318991b8c8fb0045ff176faa0361a2f0ce078", func := "loop.example/g01041/laws.FnExactIndexLine", spec := "fnExactIndexLine", inPlace := ["internal/abi.NoEscape", "internal/bytealg.MakeNoZero"], unfollowed := true, recurses := true, apart := false, narrowed := true }
def FnExactIndexLineUptoSaid : Prop := fnExactIndexLineUptoRow.holds Try.pinned (OpenSpec.upto fnExactIndexLineSpec)

/-- 'laws.FnIndex', WHERE WHAT IT READS IS OF BULK AT MOST 1048576: true; the input reads as it did. -/
def fnIndexUptoRow : OpenClaim := { program := "ytcamhpknmbohnaa", sum := "b9e0673a288fcc890f93b2edbe9318991b8c8fb0045ff176faa0361a2f0ce078", func := "loop.example/g01041/laws.FnIndex", spec := "fnIndex", inPlace := ["internal/abi.NoEscape", "internal/bytealg.MakeNoZero"], unfollowed := true, recurses := true, apart := false, narrowed := true }
def FnIndexUptoSaid : Prop := fnIndexUptoRow.holds Try.pinned (OpenSpec.upto fnIndexSpec)

/-- 'laws.FnExactCountLine', WHERE WHAT IT READS IS OF BULK AT MOST 1048576: true; the input reads as it did. -/
def fnExactCountLineUptoRow : OpenClaim := { program := "ytcamhpknmbohnaa", sum := "b9e0673a288fcc890f93b2edbe9318991b8c8fb0045ff176faa0361a2f0ce078", func := "loop.example/g01041/laws.FnExactCountLine", spec := "fnExactCountLine", unfollowed := true, recurses := true, apart := false, narrowed := true }
def FnExactCountLineUptoSaid : Prop := fnExactCountLineUptoRow.holds Try.pinned (OpenSpec.upto fnExactCountLineSpec)

/-- 'laws.FnComplements', WHERE WHAT IT READS IS OF BULK AT MOST 1048576: true; the input reads as it did. -/
def fnComplementsUptoRow : OpenClaim := { program := "ytcamhpknmbohnaa", sum := "b9e0673a288fcc890f93b2edbe9318991b8c8fb0045ff176faa0361a2f0ce078", func := "loop.example/g01041/laws.FnComplements", spec := "fnComplements", unfollowed := true, recurses := true, apart := false, narrowed := true }
def FnComplementsUptoSaid : Prop := fnComplementsUptoRow.holds Try.pinned (OpenSpec.upto fnComplementsSpec)

/-- 'laws.FnTrees', WHERE WHAT IT READS IS OF BULK AT MOST 1048576: true; the input reads as it did. -/
def fnTreesUptoRow : OpenClaim := { program := "ytcamhpknmbohnaa", sum := "b9e0673a288fcc890f93b2edbe9318991b8c8fb0045ff176faa0361a2f0ce078", func := "loop.example/g01041/laws.FnTrees", spec := "fnTrees", inPlace := ["internal/abi.NoEscape", "internal/bytealg.MakeNoZero", "internal/bytealg.abigen_runtime_cmpstring"], unfollowed := true, recurses := true, apart := false, narrowed := true }
def FnTreesUptoSaid : Prop := fnTreesUptoRow.holds Try.pinned (OpenSpec.upto fnTreesSpec)

/-- 'laws.FnExactCountGraphsWith', WHERE WHAT IT READS IS OF BULK AT MOST 1048576: true; the input reads as it did. -/
def fnExactCountGraphsWithUptoRow : OpenClaim := { program := "ytcamhpknmbohnaa", sum := "b9e0673a288fcc890f93b2edbe9318991b8c8fb0045ff176faa0361a2f0ce078", func := "loop.example/g01041/laws.FnExactCountGraphsWith", spec := "fnExactCountGraphsWith", unfollowed := true, recurses := true, apart := false, narrowed := true }
def FnExactCountGraphsWithUptoSaid : Prop := fnExactCountGraphsWithUptoRow.holds Try.pinned (OpenSpec.upto fnExactCountGraphsWithSpec)

end Rows
end Go.Proofs.Ytcamhpknmbohnaa
