/-
  Plain facts about all graphs of at most four vertices: no program in sight.
-/
import Derived.Test.YtcamhpknmbohnaaPlI
set_option linter.unusedVariables false
namespace Go.Proofs.Ytcamhpknmbohnaa
open Go Go.Proofs.Ytcamhpknmbohnaa.Ow
/-- how many bits are set -/
def onesF : Nat → Nat → Nat
  | 0, _ => 0
  | f + 1, g => if 0 < g then g % 2 + onesF f (g / 2) else 0
def onesN (g : Nat) : Nat := onesF 64 g
def selfC (n : Nat) : Nat → Nat
  | 0 => 0
  | x + 1 => selfC n x + (if selfB (n : Nat) (x : Nat) = true then 1 else 0)
def compCheck (n g : Nat) : Bool := decide (w64 ((BitVec.ofInt 64 (((2 ^ cp n : Nat) : Int) - 1 - (g : Int)) &&& BitVec.ofInt 64 (g : Int)).toNat : Nat) = 0) && (!selfB (n : Nat) (g : Nat) || decide (2 * onesN g = cp n))
set_option maxRecDepth 100000
theorem comp_all : ∀ n, n < 5 → 1 ≤ n → (∀ g, g < 2 ^ cp n → compCheck n g = true) ∧ (selfC n (2 ^ cp n) : Int) = [0, 1, 0, 0, 12].getD n 0 := by decide +kernel
/-- how many graphs of a list have e edges -/
def ecnt (l : List Int) (e : Nat) : Nat → Nat
  | 0 => 0
  | k + 1 => ecnt l e k + (if onesN (l.getD k 0).toNat = e then 1 else 0)
def cntCheck (n : Nat) : Bool := let l := lstG n (2 ^ cp n)
  (decide ((l.length : Int) = cgI n) && decide ((l.length : Int) = [0, 1, 2, 4, 11].getD n 0)) && ((List.range (cp n + 1)).all fun e => decide ((ecnt l e l.length : Int) = cgwI n e) && decide ((ecnt l e l.length : Int) = cgwI n (cp n - e))) && decide (sumTo (fun e => ecnt l e l.length) (cp n + 1) = l.length)
theorem cnt_all : ∀ n, n < 5 → 1 ≤ n → cntCheck n = true := by decide +kernel
theorem cnt_five : cgI 5 = 34 := by decide +kernel
end Go.Proofs.Ytcamhpknmbohnaa
