/-
  Plain facts about the numbers of rooted trees: no program in sight.
-/
import Derived.Test.YtcamhpknmbohnaaOw
set_option linter.unusedVariables false
namespace Go.Proofs.Ytcamhpknmbohnaa
open Go Go.Proofs.Ytcamhpknmbohnaa.Ow

def rootR : List Int := [0, 1, 1, 2, 4, 9, 20, 48, 115, 286, 719, 1842, 4766]
def rg (k : Nat) : Int := rootR.getD k 0
/-- the sum of d times r[d] over the d among 1 .. k that divide j -/
def sP (j : Nat) : Nat → Int
  | 0 => 0
  | k + 1 => if (j : Int).tmod ((k + 1 : Nat) : Int) = 0 then sP j k + ((k + 1 : Nat) : Int) * rg (k + 1) else sP j k
def tP (m : Nat) : Nat → Int
  | 0 => 0
  | k + 1 => tP m k + sP (k + 1) (k + 1) * rg (m - k)
/-- the sum of r[i] times r[n-i] over i among 1 .. k -/
def uP (n : Nat) : Nat → Int
  | 0 => 0
  | k + 1 => uP n k + rg (k + 1) * rg (n - (k + 1))
def uE (n : Nat) : Int := if (n : Int).tmod 2 = 0 then uP n (n - 1) - rg (n / 2) else uP n (n - 1)
def rootN (x : Int) : Int := if 1 ≤ x ∧ x ≤ 12 then rg x.toNat else -1
def freeN (x : Int) : Int := if 1 ≤ x ∧ x ≤ 12 then rg x.toNat - (uE x.toNat).tdiv 2 else -1

theorem rg_b : ∀ k, k < 13 → 0 ≤ rg k ∧ rg k ≤ 4766 := by decide
theorem rg_m : ∀ k, k < 13 → 0 ≤ ((k : Nat) : Int) * rg k ∧ ((k : Nat) : Int) * rg k ≤ 100000 := by decide
theorem sP_b : ∀ j, j < 12 → ∀ k, k < j + 1 → 0 ≤ sP j k ∧ sP j k ≤ 1000000 := by decide
theorem sr_b : ∀ m, m < 12 → ∀ j, j < m → 0 ≤ sP (j + 1) (j + 1) * rg (m - j) ∧ sP (j + 1) (j + 1) * rg (m - j) ≤ 100000000 := by decide
theorem tP_b : ∀ m, m < 12 → ∀ k, k < m + 1 → 0 ≤ tP m k ∧ tP m k ≤ 100000000 := by decide
theorem rr_b : ∀ n, n < 13 → ∀ k, k < n → 0 ≤ rg k * rg (n - k) ∧ rg k * rg (n - k) ≤ 100000000 := by decide
theorem uP_b : ∀ n, n < 13 → ∀ k, k < n → 0 ≤ uP n k ∧ uP n k ≤ 100000000 := by decide
theorem uE_b : ∀ n, n < 13 → 1 ≤ n → -100000000 ≤ uE n ∧ uE n ≤ 100000000 ∧ -100000000 ≤ (uE n).tdiv 2 ∧ (uE n).tdiv 2 ≤ 100000000 := by decide
theorem root_step : ∀ m, m < 12 → 1 ≤ m → rootR.take (m + 1) ++ [(tP m m).tdiv (m : Int)] = rootR.take (m + 2) ∧ 0 ≤ (tP m m).tdiv (m : Int) ∧ (tP m m).tdiv (m : Int) ≤ 100000000 := by decide
theorem root_len : ∀ m, m < 13 → (rootR.take (m + 1)).length = m + 1 := by decide
theorem root_get (m k : Nat) (h : k < m + 1) : (rootR.take (m + 1)).getD k 0 = rg k := L_take _ _ _ _ h
theorem free_b : ∀ n, n < 13 → 1 ≤ n → 0 ≤ rg n - (uE n).tdiv 2 ∧ rg n - (uE n).tdiv 2 ≤ rg n := by decide

end Go.Proofs.Ytcamhpknmbohnaa
