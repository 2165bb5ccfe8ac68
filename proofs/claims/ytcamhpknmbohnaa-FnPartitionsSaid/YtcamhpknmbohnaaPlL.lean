/-
  Plain facts about divisions into parts: no program in sight.
-/
import Derived.Test.YtcamhpknmbohnaaPlG
set_option linter.unusedVariables false
namespace Go.Proofs.Ytcamhpknmbohnaa
open Go Go.Proofs.Ytcamhpknmbohnaa.Ow
/-- one row of the known recursion after j steps, from the last place on -/
def rowK (r : List Int) : Nat → List Int
  | 0 => r
  | j + 1 => (rowK r j).set (4 - j) (((4 - j : Nat) : Int) * (rowK r j).getD (4 - j) 0 + (rowK r j).getD (3 - j) 0)
def rowF : Nat → List Int
  | 0 => [1, 0, 0, 0, 0]
  | i + 1 => (rowK (rowF i) 4).set 0 0
def sumR (r : List Int) : Nat → Int
  | 0 => 0
  | k + 1 => sumR r k + r.getD (k + 1) 0
theorem rowK_b : ∀ i, i < 10 → ∀ j, j < 5 → (rowK (rowF i) j).length = 5 ∧ ∀ c, c < 5 → 0 ≤ (rowK (rowF i) j).getD c 0 ∧ (rowK (rowF i) j).getD c 0 ≤ 1000000 := by decide
/-- the same group's orbits counted: what CountPartitions counts -/
def idSum (n k : Nat) : Nat := sumG [idL n] (symL k) 1 / (symL k).length
def gokId (n : Nat) : Bool := permB (idL n) && decide (0 ≤ findI [idL n] (exL (idL n) (idL n)))
set_option maxRecDepth 100000
theorem part_all : ∀ n, n < 10 → 1 ≤ n → gokId n = true ∧ ∀ k, k < 4 → (idSum n (k + 1) : Int) = sumR (rowF n) (k + 1) := by decide +kernel
end Go.Proofs.Ytcamhpknmbohnaa
