/-
  Contracts of the functions on colorings: which lists are colorings, the first colors, how many are used.
-/
import Derived.Test.YtekknbcojfaohaaWcom
set_option linter.unusedVariables false
namespace Go.Proofs.Ytekknbcojfaohaa
open Go Go.Proofs.Ytekknbcojfaohaa.Ow










end Go.Proofs.Ytekknbcojfaohaa
