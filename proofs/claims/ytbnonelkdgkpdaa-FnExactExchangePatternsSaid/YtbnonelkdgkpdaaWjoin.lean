/-
  Contracts of the functions that join texts.
-/
import Derived.Test.YtbnonelkdgkpdaaPls
import Derived.Test.YtbnonelkdgkpdaaTy
import Derived.Test.YtbnonelkdgkpdaaShelf
set_option linter.unusedVariables false
namespace Go.Proofs.Ytbnonelkdgkpdaa
open Go Go.Proofs.Ytbnonelkdgkpdaa.Ow



end Go.Proofs.Ytbnonelkdgkpdaa
