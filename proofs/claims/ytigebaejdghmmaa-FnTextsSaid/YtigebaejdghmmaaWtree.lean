/-
  Contracts of the functions on trees of parents, for all lists of at most 2^20 elements.
-/
import Derived.Test.YtigebaejdghmmaaWcom
import Derived.Test.YtigebaejdghmmaaPl
set_option linter.unusedVariables false
namespace Go.Proofs.Ytigebaejdghmmaa
open Go Go.Proofs.Ytigebaejdghmmaa.Ow

/-- impl.TreeOk -/
theorem impl_TreeOk (sh : Bool) (xs : List Int) (hl : xs.length ≤ 1048576) : AC Try.prog 102 [.d sh (.sl .int) xs] [] [.d true .bool (treeB xs)] [] := by
  refine AC_of tauOk 35 0 [2] Try.func102 rfl (by kernel_rfl) rfl rfl rfl rfl rfl ?_
  refine ⟨fun h1 => ?_, fun h1 => ?_⟩
  · exact ⟨none, ⟨retB (treeB_false fun h => by have := h.1; omega), trivial⟩, rfl, rfl⟩
  refine ⟨fun h2 => ?_, fun h2 => ?_⟩
  · exact ⟨none, ⟨retB (treeB_false fun h => by have := h.1; omega), trivial⟩, rfl, rfl⟩
  refine ⟨0, rfl, by omega, fun h3 => ?_, fun h3 => ?_⟩
  · exact ⟨none, ⟨retB (treeB_false fun h => h3 h.2.1), trivial⟩, rfl, rfl⟩
  refine ⟨1, rfl, by omega, Nat.le_refl _, ?_⟩
  have hlen : (List.drop 1 (List.take xs.length xs)).length = xs.length - 1 := by simp
  have hget : ∀ j, (List.drop 1 (List.take xs.length xs)).getD j 0 = xs.getD (j + 1) 0 := fun j => by rw [L_drop, List.take_length, Nat.add_comm]
  generalize List.drop 1 (List.take xs.length xs) = ys at *
  refine ⟨Nat, fun k => ⟨[(20, .d sh (.sl .int) ys), (21, I ys.length), (22, I (k : Nat))], []⟩, fun k => k ≤ ys.length ∧ ∀ i, 1 ≤ i → i < k + 1 → 0 ≤ xs.getD i 0 ∧ xs.getD i 0 < (i : Int), fun k => ys.length - k, 0, ⟨by omega, fun j hj => by omega⟩,
    ⟨⟨rfl, rfl⟩, ⟨rfl, rfl, rfl, trivial⟩, trivial⟩, fun k ⟨hk, hy⟩ => ?_⟩
  refine ⟨fun h4 => ?_, fun h4 => ?_⟩
  · refine ⟨k, rfl, by omega, fun h5 => ?_, fun h5 => ?_⟩
    · refine ⟨none, ⟨retB (treeB_false fun h => ?_), trivial⟩, rfl, rfl⟩
      have := h.2.2 (k + 1) (by omega) (by omega)
      rw [hget] at h5
      omega
    · refine ⟨fun h6 => ?_, fun h6 => ?_⟩
      · refine ⟨none, ⟨retB (treeB_false fun h => ?_), trivial⟩, rfl, rfl⟩
        have := h.2.2 (k + 1) (by omega) (by omega)
        rw [hget] at h6
        omega
      · refine ⟨_, w64_in _ (by omega) (by omega), k + 1, ⟨by omega, fun i hi1 hi2 => ?_⟩, by dsimp only; omega, ⟨rfl, rfl⟩, ⟨rfl, rfl, rfl, trivial⟩, trivial⟩
        rw [hget] at h5 h6
        by_cases e : i = k + 1
        · subst e; omega
        · exact hy i hi1 (by omega)
  · exact ⟨none, ⟨retB ((treeB_iff xs).2 ⟨by omega, by omega, fun i hi1 hi2 => hy i hi1 (by omega)⟩), trivial⟩, rfl, rfl⟩


end Go.Proofs.Ytigebaejdghmmaa
