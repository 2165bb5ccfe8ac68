/-
  Contracts of the functions that write integers as text, for all integers.
-/
import Derived.Test.YtbnonelkdgkpdaaWint
import Derived.Test.YtbnonelkdgkpdaaWjoin
import Derived.Deep.RegionWith
import Derived.Deep.Cut
import Derived.Below
set_option linter.unusedVariables false
namespace Go.Proofs.Ytbnonelkdgkpdaa
open Go Go.RowKit Go.Proofs.Ytbnonelkdgkpdaa.Ow
/-- a contract's word at one text argument's result -/
theorem calls_str {P : Program} {f : FuncId} {x : Int} {s : List UInt8} (h : AC P f [I x] [] [.d true .str s] []) (w : World) : Calls P f #[.int .i64 x] w fun e w' => e = .returned (.string ⟨s.toArray⟩) ∧ Below w.heap.size w w' := by
  refine (h.2 w [] (fun _ => False) [.int .i64 x] ⟨rfl, List.nodup_nil, fun b hb => by simp at hb, fun b hb => hb.elim, fun i b r hb => by simp at hb⟩ ⟨_, _, rfl, rfl, rfl⟩).mono ?_
  rintro e w' ⟨rv, bs', A', rfl, _, hres, hstep, _, _, _⟩
  have hr : rv = .string ⟨s.toArray⟩ := hres
  subst hr
  exact ⟨rfl, hstep.os, hstep.tape, hstep.output, hstep.size, fun k hk => hstep.block k hk (by simp)⟩


end Go.Proofs.Ytbnonelkdgkpdaa
