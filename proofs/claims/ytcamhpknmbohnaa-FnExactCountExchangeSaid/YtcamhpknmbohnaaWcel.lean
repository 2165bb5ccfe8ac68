/-
  CountExchange: the program against the reference.
-/
import Derived.Test.YtcamhpknmbohnaaWcex
import Derived.Test.YtcamhpknmbohnaaWmat
set_option linter.unusedVariables false
namespace Go.Proofs.Ytcamhpknmbohnaa
open Go Go.Proofs.Ytcamhpknmbohnaa.Ow
/-- laws.FnExactCountExchange -/
theorem laws_FnExactCountExchange (sh : Bool) (xss : List (List Int)) (hl : Lens xss) (k : Int) : AC Try.prog 8 [.d sh (.sl (.sl .int)) xss, I k] [] [.d true .bool true] [] := by
  refine AC_of tauOk 31 0 [4] Try.func8 rfl (by kernel_rfl) rfl rfl rfl rfl rfl ?_
  refine ⟨[], false, _, _, laws_szIntSS sh xss 1048576 hl (by decide) (by decide), List.nodup_nil, rfl, rfl, trivial, fun h1 => ?_, fun h1 => ?_⟩
  · exact ⟨none, ⟨rfl, trivial⟩, rfl, rfl⟩
  have hs := short_of (xss := xss) (by omega)
  refine ⟨[], true, _, _, laws_toIntSS sh xss hs, List.nodup_nil, rfl, rfl, trivial, ?_⟩
  refine ⟨[], false, _, _, spec_CountExchange true xss k hs.1 hs.2, List.nodup_nil, rfl, rfl, trivial, ?_⟩
  refine ⟨[], true, _, _, laws_toIntSS sh xss hs, List.nodup_nil, rfl, rfl, trivial, ?_⟩
  refine ⟨[], false, _, _, impl_CountExchange true xss k hs.1 hs.2, List.nodup_nil, rfl, rfl, trivial, fun h2 => (h2 rfl).elim, fun h2 => ?_⟩
  refine ⟨[], true, _, _, laws_toIntSS sh xss hs, List.nodup_nil, rfl, rfl, trivial, ?_⟩
  refine ⟨[], false, _, _, laws_eqIntSS _ _ xss hs, List.nodup_nil, rfl, rfl, trivial, fun h5 => ?_, fun h5 => by simp at h5⟩
  exact ⟨none, ⟨rfl, trivial⟩, rfl, rfl⟩
end Go.Proofs.Ytcamhpknmbohnaa
