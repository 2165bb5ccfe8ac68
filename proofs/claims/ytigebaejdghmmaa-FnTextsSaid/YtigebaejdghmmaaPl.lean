/-
  Plain definitions and laws on lists and numbers: no program in sight.
-/
import Derived.Test.YtigebaejdghmmaaOw
set_option linter.unusedVariables false
namespace Go.Proofs.Ytigebaejdghmmaa
open Go Go.Proofs.Ytigebaejdghmmaa.Ow
/-- the parents of a rooted tree -/
def TreeP (xs : List Int) : Prop := (1 ≤ xs.length ∧ xs.length ≤ 12) ∧ xs.getD 0 0 = -1 ∧ ∀ i, 1 ≤ i → i < xs.length → 0 ≤ xs.getD i 0 ∧ xs.getD i 0 < (i : Int)
def treeB (xs : List Int) : Bool := decide (1 ≤ xs.length) && decide (xs.length ≤ 12) && decide (xs.getD 0 0 = -1) && (List.range xs.length).all fun i => decide (i < 1) || decide (0 ≤ xs.getD i 0) && decide (xs.getD i 0 < (i : Int))
theorem treeB_iff (xs : List Int) : treeB xs = true ↔ TreeP xs := by
  unfold treeB TreeP
  simp only [Bool.and_eq_true, decide_eq_true_eq, List.all_eq_true, List.mem_range, Bool.or_eq_true]
  constructor
  · rintro ⟨⟨⟨h1, h2⟩, h3⟩, h4⟩
    exact ⟨⟨h1, h2⟩, h3, fun i h5 h6 => by rcases h4 i h6 with h | h; omega; exact h⟩
  · rintro ⟨⟨h1, h2⟩, h3, h4⟩
    exact ⟨⟨⟨h1, h2⟩, h3⟩, fun i h5 => by
      by_cases h : i < 1
      · exact .inl h
      · exact .inr (h4 i (by omega) h5)⟩
theorem treeB_false {xs : List Int} (h : ¬ TreeP xs) : treeB xs = false := by
  cases hb : treeB xs
  · rfl
  · exact (h ((treeB_iff xs).1 hb)).elim
end Go.Proofs.Ytigebaejdghmmaa
