/-
  No cell of these rows narrows 'for every input' (looked for: loops, veiled, ifaces, maps, wideKeys, modest, calm, conditions, laid).
  DERIVED. THE GIVEN ROWS OF THIS SEAT. 12 by the template 'for every input the law returns true; each argument reads behind the call as it read before'; 0 by the template 'total and deterministic' (their statements: YtokejdaokfjmmaaTotals.lean).
  GIVEN WITH THE SEED: the statements are not yours to turn. If you find one false, say at which input.
  Laid BY PROGRAM, IN A SANDBOX (cutbox-rows.mjs): the forced cells as the released guide's own fill.sh prints them over the translation aa7e4205796d25bb… (all of the seat's roots in one cut). By AI agents, Wed Nov 11 2026. No macro, syntax, notation, axiom, sorry.
-/
import Derived.Test.YtokejdaokfjmmaaChecked
import GoSem.Claim
import GoSem.ClaimJoined
import GoSem.ClaimMapViews
import Derived.JoinedTies
import Derived.KernelRfl
namespace Go.Proofs.Ytokejdaokfjmmaa
/- THE CELL 'sum', in the pinned program and in every row, IS THE sha256 OF THE DUMP (.gsa) THAT YtokejdaokfjmmaaProg.lean LOADS. Nothing in Lean hashes anything: it is a label: what it is worth is what the hold of that sum in a sandbox is worth. -/
noncomputable def Try.pinned : Pinned := { name := "ytokejdaokfjmmaa", sum := "aa7e4205796d25bba9cd95542224446f372d549da5cdd3c4accb99784a64363c", checked := Try.checked }
namespace Rows
def none {H : Type} : Left H := { results := [], args := [] }

/-- 'laws.FnExactGraphOk': WHATEVER THE INPUT: true; the input reads as it did. -/
def fnExactGraphOkSpec : ChangeSpec := { name := "fnExactGraphOk", fn := fun _ => fun
  | [d1, d2] => { results := [.lit (.bool true)], args := [d1, d2] }
  | _ => none }
def fnExactGraphOkRow : OpenClaim := { program := "ytokejdaokfjmmaa", sum := "aa7e4205796d25bba9cd95542224446f372d549da5cdd3c4accb99784a64363c", func := "loop.example/g01041/laws.FnExactGraphOk", spec := "fnExactGraphOk", apart := false }
def FnExactGraphOkSaid : Prop := fnExactGraphOkRow.holds Try.pinned (OpenSpec.ofChange fnExactGraphOkSpec)

/-- ITS FALSE NEIGHBOUR: 'it returns false'. Refute it at one input. -/
def fnExactGraphOkWrong : ChangeSpec := { name := "fnExactGraphOk", fn := fun _ => fun
  | [d1, d2] => { results := [.lit (.bool false)], args := [d1, d2] }
  | _ => none }
def FnExactGraphOkWrongFalsely : Prop := fnExactGraphOkRow.holds Try.pinned (OpenSpec.ofChange fnExactGraphOkWrong)

/-- 'laws.FnExactComplementOf': WHATEVER THE INPUT: true; the input reads as it did. -/
def fnExactComplementOfSpec : ChangeSpec := { name := "fnExactComplementOf", fn := fun _ => fun
  | [d1, d2] => { results := [.lit (.bool true)], args := [d1, d2] }
  | _ => none }
def fnExactComplementOfRow : OpenClaim := { program := "ytokejdaokfjmmaa", sum := "aa7e4205796d25bba9cd95542224446f372d549da5cdd3c4accb99784a64363c", func := "loop.example/g01041/laws.FnExactComplementOf", spec := "fnExactComplementOf", apart := false }
def FnExactComplementOfSaid : Prop := fnExactComplementOfRow.holds Try.pinned (OpenSpec.ofChange fnExactComplementOfSpec)

/-- ITS FALSE NEIGHBOUR: 'it returns false'. Refute it at one input. -/
def fnExactComplementOfWrong : ChangeSpec := { name := "fnExactComplementOf", fn := fun _ => fun
  | [d1, d2] => { results := [.lit (.bool false)], args := [d1, d2] }
  | _ => none }
def FnExactComplementOfWrongFalsely : Prop := fnExactComplementOfRow.holds Try.pinned (OpenSpec.ofChange fnExactComplementOfWrong)

/-- 'laws.FnExactTreeOk': WHATEVER THE INPUT: true; the input reads as it did. -/
def fnExactTreeOkSpec : ChangeSpec := { name := "fnExactTreeOk", fn := fun _ => fun
  | [d] => { results := [.lit (.bool true)], args := [d] }
  | _ => none }
def fnExactTreeOkRow : OpenClaim := { program := "ytokejdaokfjmmaa", sum := "aa7e4205796d25bba9cd95542224446f372d549da5cdd3c4accb99784a64363c", func := "loop.example/g01041/laws.FnExactTreeOk", spec := "fnExactTreeOk", apart := false }
def FnExactTreeOkSaid : Prop := fnExactTreeOkRow.holds Try.pinned (OpenSpec.ofChange fnExactTreeOkSpec)

/-- ITS FALSE NEIGHBOUR: 'it returns false'. Refute it at one input. -/
def fnExactTreeOkWrong : ChangeSpec := { name := "fnExactTreeOk", fn := fun _ => fun
  | [d] => { results := [.lit (.bool false)], args := [d] }
  | _ => none }
def FnExactTreeOkWrongFalsely : Prop := fnExactTreeOkRow.holds Try.pinned (OpenSpec.ofChange fnExactTreeOkWrong)

/-- 'laws.FnExactCountRooted': WHATEVER THE INPUT: true; the input reads as it did. -/
def fnExactCountRootedSpec : ChangeSpec := { name := "fnExactCountRooted", fn := fun _ => fun
  | [d] => { results := [.lit (.bool true)], args := [d] }
  | _ => none }
def fnExactCountRootedRow : OpenClaim := { program := "ytokejdaokfjmmaa", sum := "aa7e4205796d25bba9cd95542224446f372d549da5cdd3c4accb99784a64363c", func := "loop.example/g01041/laws.FnExactCountRooted", spec := "fnExactCountRooted", apart := false }
def FnExactCountRootedSaid : Prop := fnExactCountRootedRow.holds Try.pinned (OpenSpec.ofChange fnExactCountRootedSpec)

/-- ITS FALSE NEIGHBOUR: 'it returns false'. Refute it at one input. -/
def fnExactCountRootedWrong : ChangeSpec := { name := "fnExactCountRooted", fn := fun _ => fun
  | [d] => { results := [.lit (.bool false)], args := [d] }
  | _ => none }
def FnExactCountRootedWrongFalsely : Prop := fnExactCountRootedRow.holds Try.pinned (OpenSpec.ofChange fnExactCountRootedWrong)

/-- 'laws.FnExactCountFree': WHATEVER THE INPUT: true; the input reads as it did. -/
def fnExactCountFreeSpec : ChangeSpec := { name := "fnExactCountFree", fn := fun _ => fun
  | [d] => { results := [.lit (.bool true)], args := [d] }
  | _ => none }
def fnExactCountFreeRow : OpenClaim := { program := "ytokejdaokfjmmaa", sum := "aa7e4205796d25bba9cd95542224446f372d549da5cdd3c4accb99784a64363c", func := "loop.example/g01041/laws.FnExactCountFree", spec := "fnExactCountFree", apart := false }
def FnExactCountFreeSaid : Prop := fnExactCountFreeRow.holds Try.pinned (OpenSpec.ofChange fnExactCountFreeSpec)

/-- ITS FALSE NEIGHBOUR: 'it returns false'. Refute it at one input. -/
def fnExactCountFreeWrong : ChangeSpec := { name := "fnExactCountFree", fn := fun _ => fun
  | [d] => { results := [.lit (.bool false)], args := [d] }
  | _ => none }
def FnExactCountFreeWrongFalsely : Prop := fnExactCountFreeRow.holds Try.pinned (OpenSpec.ofChange fnExactCountFreeWrong)

/-- 'laws.FnFree': WHATEVER THE INPUT: true; the input reads as it did. -/
def fnFreeSpec : ChangeSpec := { name := "fnFree", fn := fun _ => fun
  | [d] => { results := [.lit (.bool true)], args := [d] }
  | _ => none }
def fnFreeRow : OpenClaim := { program := "ytokejdaokfjmmaa", sum := "aa7e4205796d25bba9cd95542224446f372d549da5cdd3c4accb99784a64363c", func := "loop.example/g01041/laws.FnFree", spec := "fnFree", apart := false }
def FnFreeSaid : Prop := fnFreeRow.holds Try.pinned (OpenSpec.ofChange fnFreeSpec)

/-- ITS FALSE NEIGHBOUR: 'it returns false'. Refute it at one input. -/
def fnFreeWrong : ChangeSpec := { name := "fnFree", fn := fun _ => fun
  | [d] => { results := [.lit (.bool false)], args := [d] }
  | _ => none }
def FnFreeWrongFalsely : Prop := fnFreeRow.holds Try.pinned (OpenSpec.ofChange fnFreeWrong)

/-- 'laws.FnExactHeightOf': WHATEVER THE INPUT: true; the input reads as it did. -/
def fnExactHeightOfSpec : ChangeSpec := { name := "fnExactHeightOf", fn := fun _ => fun
  | [d] => { results := [.lit (.bool true)], args := [d] }
  | _ => none }
def fnExactHeightOfRow : OpenClaim := { program := "ytokejdaokfjmmaa", sum := "aa7e4205796d25bba9cd95542224446f372d549da5cdd3c4accb99784a64363c", func := "loop.example/g01041/laws.FnExactHeightOf", spec := "fnExactHeightOf", apart := false }
def FnExactHeightOfSaid : Prop := fnExactHeightOfRow.holds Try.pinned (OpenSpec.ofChange fnExactHeightOfSpec)

/-- ITS FALSE NEIGHBOUR: 'it returns false'. Refute it at one input. -/
def fnExactHeightOfWrong : ChangeSpec := { name := "fnExactHeightOf", fn := fun _ => fun
  | [d] => { results := [.lit (.bool false)], args := [d] }
  | _ => none }
def FnExactHeightOfWrongFalsely : Prop := fnExactHeightOfRow.holds Try.pinned (OpenSpec.ofChange fnExactHeightOfWrong)

/-- 'laws.FnExactColorsUsed': WHATEVER THE INPUT: true; the input reads as it did. -/
def fnExactColorsUsedSpec : ChangeSpec := { name := "fnExactColorsUsed", fn := fun _ => fun
  | [d] => { results := [.lit (.bool true)], args := [d] }
  | _ => none }
def fnExactColorsUsedRow : OpenClaim := { program := "ytokejdaokfjmmaa", sum := "aa7e4205796d25bba9cd95542224446f372d549da5cdd3c4accb99784a64363c", func := "loop.example/g01041/laws.FnExactColorsUsed", spec := "fnExactColorsUsed", apart := false }
def FnExactColorsUsedSaid : Prop := fnExactColorsUsedRow.holds Try.pinned (OpenSpec.ofChange fnExactColorsUsedSpec)

/-- ITS FALSE NEIGHBOUR: 'it returns false'. Refute it at one input. -/
def fnExactColorsUsedWrong : ChangeSpec := { name := "fnExactColorsUsed", fn := fun _ => fun
  | [d] => { results := [.lit (.bool false)], args := [d] }
  | _ => none }
def FnExactColorsUsedWrongFalsely : Prop := fnExactColorsUsedRow.holds Try.pinned (OpenSpec.ofChange fnExactColorsUsedWrong)

/-- 'laws.FnExactFirstColors': WHATEVER THE INPUT: true; the input reads as it did. -/
def fnExactFirstColorsSpec : ChangeSpec := { name := "fnExactFirstColors", fn := fun _ => fun
  | [d] => { results := [.lit (.bool true)], args := [d] }
  | _ => none }
def fnExactFirstColorsRow : OpenClaim := { program := "ytokejdaokfjmmaa", sum := "aa7e4205796d25bba9cd95542224446f372d549da5cdd3c4accb99784a64363c", func := "loop.example/g01041/laws.FnExactFirstColors", spec := "fnExactFirstColors", apart := false }
def FnExactFirstColorsSaid : Prop := fnExactFirstColorsRow.holds Try.pinned (OpenSpec.ofChange fnExactFirstColorsSpec)

/-- ITS FALSE NEIGHBOUR: 'it returns false'. Refute it at one input. -/
def fnExactFirstColorsWrong : ChangeSpec := { name := "fnExactFirstColors", fn := fun _ => fun
  | [d] => { results := [.lit (.bool false)], args := [d] }
  | _ => none }
def FnExactFirstColorsWrongFalsely : Prop := fnExactFirstColorsRow.holds Try.pinned (OpenSpec.ofChange fnExactFirstColorsWrong)

/-- 'laws.FnExactParseWord': WHATEVER THE INPUT: true; the input reads as it did. -/
def fnExactParseWordSpec : ChangeSpec := { name := "fnExactParseWord", fn := fun _ => fun
  | [d] => { results := [.lit (.bool true)], args := [d] }
  | _ => none }
def fnExactParseWordRow : OpenClaim := { program := "ytokejdaokfjmmaa", sum := "aa7e4205796d25bba9cd95542224446f372d549da5cdd3c4accb99784a64363c", func := "loop.example/g01041/laws.FnExactParseWord", spec := "fnExactParseWord", recurses := true, apart := false }
def FnExactParseWordSaid : Prop := fnExactParseWordRow.holds Try.pinned (OpenSpec.ofChange fnExactParseWordSpec)

/-- ITS FALSE NEIGHBOUR: 'it returns false'. Refute it at one input. -/
def fnExactParseWordWrong : ChangeSpec := { name := "fnExactParseWord", fn := fun _ => fun
  | [d] => { results := [.lit (.bool false)], args := [d] }
  | _ => none }
def FnExactParseWordWrongFalsely : Prop := fnExactParseWordRow.holds Try.pinned (OpenSpec.ofChange fnExactParseWordWrong)

/-- 'laws.FnExactExchangeColors': WHATEVER THE INPUT: true; the input reads as it did. -/
def fnExactExchangeColorsSpec : ChangeSpec := { name := "fnExactExchangeColors", fn := fun _ => fun
  | [d1, d2] => { results := [.lit (.bool true)], args := [d1, d2] }
  | _ => none }
def fnExactExchangeColorsRow : OpenClaim := { program := "ytokejdaokfjmmaa", sum := "aa7e4205796d25bba9cd95542224446f372d549da5cdd3c4accb99784a64363c", func := "loop.example/g01041/laws.FnExactExchangeColors", spec := "fnExactExchangeColors", unfollowed := true, recurses := true, apart := false }
def FnExactExchangeColorsSaid : Prop := fnExactExchangeColorsRow.holds Try.pinned (OpenSpec.ofChange fnExactExchangeColorsSpec)

/-- ITS FALSE NEIGHBOUR: 'it returns false'. Refute it at one input. -/
def fnExactExchangeColorsWrong : ChangeSpec := { name := "fnExactExchangeColors", fn := fun _ => fun
  | [d1, d2] => { results := [.lit (.bool false)], args := [d1, d2] }
  | _ => none }
def FnExactExchangeColorsWrongFalsely : Prop := fnExactExchangeColorsRow.holds Try.pinned (OpenSpec.ofChange fnExactExchangeColorsWrong)

/-- 'laws.FnExactFormatInts': WHATEVER THE INPUT: true; the input reads as it did. -/
def fnExactFormatIntsSpec : ChangeSpec := { name := "fnExactFormatInts", fn := fun _ => fun
  | [d] => { results := [.lit (.bool true)], args := [d] }
  | _ => none }
def fnExactFormatIntsRow : OpenClaim := { program := "ytokejdaokfjmmaa", sum := "aa7e4205796d25bba9cd95542224446f372d549da5cdd3c4accb99784a64363c", func := "loop.example/g01041/laws.FnExactFormatInts", spec := "fnExactFormatInts", inPlace := ["internal/abi.NoEscape", "internal/bytealg.MakeNoZero"], recurses := true, apart := false }
def FnExactFormatIntsSaid : Prop := fnExactFormatIntsRow.holds Try.pinned (OpenSpec.ofChange fnExactFormatIntsSpec)

/-- ITS FALSE NEIGHBOUR: 'it returns false'. Refute it at one input. -/
def fnExactFormatIntsWrong : ChangeSpec := { name := "fnExactFormatInts", fn := fun _ => fun
  | [d] => { results := [.lit (.bool false)], args := [d] }
  | _ => none }
def FnExactFormatIntsWrongFalsely : Prop := fnExactFormatIntsRow.holds Try.pinned (OpenSpec.ofChange fnExactFormatIntsWrong)

/- THE SECOND FORM. 'bulk': how many values and letters a reading holds, each counted each time it is reached (what is shared counts as often as it is met; a slice's spare places count too). A statement '..UptoSaid' is the law's where the arguments, and the package variables that the reading takes, are together of bulk at most 1048576: NARROWER than '..Said'. Prove '..Said' where nothing that the law and all that it calls make is longer than what came in: it says more and counts as full. Else prove '..UptoSaid'. A law counts once. -/
mutual
def uptoBulk {H : Type} : DataW H → Nat
  | .lit (.string bytes) => bytes.length + 1
  | .lit _ => 1
  | .nil => 1
  | .ptr d => uptoBulk d + 1
  | .slice elems spare => uptoBulkAll elems + uptoBulkAll spare + 1
  | .agg parts => uptoBulkAll parts + 1
  | .iface _ d => uptoBulk d + 1
  | .map entries => uptoBulkEntries entries + 1
  | .held _ => 1
def uptoBulkAll {H : Type} : List (DataW H) → Nat
  | [] => 0
  | d :: r => uptoBulk d + uptoBulkAll r
def uptoBulkEntries {H : Type} : List (Lit × DataW H) → Nat
  | [] => 0
  | x :: r => uptoBulkEntry x + uptoBulkEntries r
def uptoBulkEntry {H : Type} : Lit × DataW H → Nat
  | (.string bytes, d) => bytes.length + uptoBulk d + 1
  | (_, d) => uptoBulk d + 1
 end
def uptoSmall : (H : Type) → List (DataW H) → Bool := fun _ ds => decide (uptoBulkAll ds ≤ 1048576)
def OpenSpec.upto (s : _root_.Go.ChangeSpec) : _root_.Go.OpenSpec := { _root_.Go.OpenSpec.ofChange s with cond := some uptoSmall }

/-- 'laws.FnExactGraphOk', WHERE WHAT IT READS IS OF BULK AT MOST 1048576: true; the input reads as it did. -/
def fnExactGraphOkUptoRow : OpenClaim := { program := "ytokejdaokfjmmaa", sum := "aa7e4205796d25bba9cd95542224446f372d549da5cdd3c4accb99784a64363c", func := "loop.example/g01041/laws.FnExactGraphOk", spec := "fnExactGraphOk", apart := false, narrowed := true }
def FnExactGraphOkUptoSaid : Prop := fnExactGraphOkUptoRow.holds Try.pinned (OpenSpec.upto fnExactGraphOkSpec)

/-- 'laws.FnExactComplementOf', WHERE WHAT IT READS IS OF BULK AT MOST 1048576: true; the input reads as it did. -/
def fnExactComplementOfUptoRow : OpenClaim := { program := "ytokejdaokfjmmaa", sum := "aa7e4205796d25bba9cd95542224446f372d549da5cdd3c4accb99784a64363c", func := "loop.example/g01041/laws.FnExactComplementOf", spec := "fnExactComplementOf", apart := false, narrowed := true }
def FnExactComplementOfUptoSaid : Prop := fnExactComplementOfUptoRow.holds Try.pinned (OpenSpec.upto fnExactComplementOfSpec)

/-- 'laws.FnExactTreeOk', WHERE WHAT IT READS IS OF BULK AT MOST 1048576: true; the input reads as it did. -/
def fnExactTreeOkUptoRow : OpenClaim := { program := "ytokejdaokfjmmaa", sum := "aa7e4205796d25bba9cd95542224446f372d549da5cdd3c4accb99784a64363c", func := "loop.example/g01041/laws.FnExactTreeOk", spec := "fnExactTreeOk", apart := false, narrowed := true }
def FnExactTreeOkUptoSaid : Prop := fnExactTreeOkUptoRow.holds Try.pinned (OpenSpec.upto fnExactTreeOkSpec)

/-- 'laws.FnExactCountRooted', WHERE WHAT IT READS IS OF BULK AT MOST 1048576: true; the input reads as it did. -/
def fnExactCountRootedUptoRow : OpenClaim := { program := "ytokejdaokfjmmaa", sum := "aa7e4205796d25bba9cd95542224446f372d549da5cdd3c4accb99784a64363c", func := "loop.example/g01041/laws.FnExactCountRooted", spec := "fnExactCountRooted", apart := false, narrowed := true }
def FnExactCountRootedUptoSaid : Prop := fnExactCountRootedUptoRow.holds Try.pinned (OpenSpec.upto fnExactCountRootedSpec)

/-- 'laws.FnExactCountFree', WHERE WHAT IT READS IS OF BULK AT MOST 1048576: true; the input reads as it did. -/
def fnExactCountFreeUptoRow : OpenClaim := { program := "ytokejdaokfjmmaa", sum := "aa7e4205796d25bba9cd95542224446f372d549da5cdd3c4accb99784a64363c", func := "loop.example/g01041/laws.FnExactCountFree", spec := "fnExactCountFree", apart := false, narrowed := true }
def FnExactCountFreeUptoSaid : Prop := fnExactCountFreeUptoRow.holds Try.pinned (OpenSpec.upto fnExactCountFreeSpec)

/-- 'laws.FnFree', WHERE WHAT IT READS IS OF BULK AT MOST 1048576: true; the input reads as it did. -/
def fnFreeUptoRow : OpenClaim := { program := "ytokejdaokfjmmaa", sum := "aa7e4205796d25bba9cd95542224446f372d549da5cdd3c4accb99784a64363c", func := "loop.example/g01041/laws.FnFree", spec := "fnFree", apart := false, narrowed := true }
def FnFreeUptoSaid : Prop := fnFreeUptoRow.holds Try.pinned (OpenSpec.upto fnFreeSpec)

/-- 'laws.FnExactHeightOf', WHERE WHAT IT READS IS OF BULK AT MOST 1048576: true; the input reads as it did. -/
def fnExactHeightOfUptoRow : OpenClaim := { program := "ytokejdaokfjmmaa", sum := "aa7e4205796d25bba9cd95542224446f372d549da5cdd3c4accb99784a64363c", func := "loop.example/g01041/laws.FnExactHeightOf", spec := "fnExactHeightOf", apart := false, narrowed := true }
def FnExactHeightOfUptoSaid : Prop := fnExactHeightOfUptoRow.holds Try.pinned (OpenSpec.upto fnExactHeightOfSpec)

/-- 'laws.FnExactColorsUsed', WHERE WHAT IT READS IS OF BULK AT MOST 1048576: true; the input reads as it did. -/
def fnExactColorsUsedUptoRow : OpenClaim := { program := "ytokejdaokfjmmaa", sum := "aa7e4205796d25bba9cd95542224446f372d549da5cdd3c4accb99784a64363c", func := "loop.example/g01041/laws.FnExactColorsUsed", spec := "fnExactColorsUsed", apart := false, narrowed := true }
def FnExactColorsUsedUptoSaid : Prop := fnExactColorsUsedUptoRow.holds Try.pinned (OpenSpec.upto fnExactColorsUsedSpec)

/-- 'laws.FnExactFirstColors', WHERE WHAT IT READS IS OF BULK AT MOST 1048576: true; the input reads as it did. -/
def fnExactFirstColorsUptoRow : OpenClaim := { program := "ytokejdaokfjmmaa", sum := "aa7e4205796d25bba9cd95542224446f372d549da5cdd3c4accb99784a64363c", func := "loop.example/g01041/laws.FnExactFirstColors", spec := "fnExactFirstColors", apart := false, narrowed := true }
def FnExactFirstColorsUptoSaid : Prop := fnExactFirstColorsUptoRow.holds Try.pinned (OpenSpec.upto fnExactFirstColorsSpec)

/-- 'laws.FnExactParseWord', WHERE WHAT IT READS IS OF BULK AT MOST 1048576: true; the input reads as it did. -/
def fnExactParseWordUptoRow : OpenClaim := { program := "ytokejdaokfjmmaa", sum := "aa7e4205796d25bba9cd95542224446f372d549da5cdd3c4accb99784a64363c", func := "loop.example/g01041/laws.FnExactParseWord", spec := "fnExactParseWord", recurses := true, apart := false, narrowed := true }
def FnExactParseWordUptoSaid : Prop := fnExactParseWordUptoRow.holds Try.pinned (OpenSpec.upto fnExactParseWordSpec)

/-- 'laws.FnExactExchangeColors', WHERE WHAT IT READS IS OF BULK AT MOST 1048576: true; the input reads as it did. -/
def fnExactExchangeColorsUptoRow : OpenClaim := { program := "ytokejdaokfjmmaa", sum := "aa7e4205796d25bba9cd95542224446f372d549da5cdd3c4accb99784a64363c", func := "loop.example/g01041/laws.FnExactExchangeColors", spec := "fnExactExchangeColors", unfollowed := true, recurses := true, apart := false, narrowed := true }
def FnExactExchangeColorsUptoSaid : Prop := fnExactExchangeColorsUptoRow.holds Try.pinned (OpenSpec.upto fnExactExchangeColorsSpec)

/-- 'laws.FnExactFormatInts', WHERE WHAT IT READS IS OF BULK AT MOST 1048576: true; the input reads as it did. -/
def fnExactFormatIntsUptoRow : OpenClaim := { program := "ytokejdaokfjmmaa", sum := "aa7e4205796d25bba9cd95542224446f372d549da5cdd3c4accb99784a64363c", func := "loop.example/g01041/laws.FnExactFormatInts", spec := "fnExactFormatInts", inPlace := ["internal/abi.NoEscape", "internal/bytealg.MakeNoZero"], recurses := true, apart := false, narrowed := true }
def FnExactFormatIntsUptoSaid : Prop := fnExactFormatIntsUptoRow.holds Try.pinned (OpenSpec.upto fnExactFormatIntsSpec)

end Rows
end Go.Proofs.Ytokejdaokfjmmaa
