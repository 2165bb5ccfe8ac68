/-
  Plain facts about counting graphs by the ways to color cycles: no program in sight.
-/
import Derived.Test.YtigebaejdghmmaaPlF
import Derived.Test.YtigebaejdghmmaaPl9
set_option linter.unusedVariables false
namespace Go.Proofs.Ytigebaejdghmmaa
open Go Go.Proofs.Ytigebaejdghmmaa.Ow
/-- what all renamings do to the pairs -/
def actsL (n : Nat) : List (List Int) := (symL n).map pactL
def sumTo (f : Nat → Nat) : Nat → Nat
  | 0 => 0
  | j + 1 => sumTo f j + f j
theorem sumTo_le (f : Nat → Nat) (B : Nat) : ∀ j, (∀ i, i < j → f i ≤ B) → sumTo f j ≤ j * B
  | 0, _ => Nat.zero_le _
  | j + 1, h => by
    have h1 := sumTo_le f B j fun i hi => h i (by omega)
    have h2 := h j (by omega)
    rw [sumTo, Nat.add_mul]; omega
/-- in how many ways cycles get colors -/
def waysN : List (List Int) → List Int → Nat
  | [], _ => 1
  | c :: cs, left => sumTo (fun i => if (c.length : Int) ≤ left.getD i 0 then waysN cs (left.set i (left.getD i 0 - c.length)) else 0) left.length
theorem waysN_le (L : Nat) : ∀ (cs : List (List Int)) (left : List Int), left.length = L → waysN cs left ≤ L ^ cs.length
  | [], _, _ => Nat.le_refl _
  | c :: cs, left, h => by
    rw [waysN, List.length_cons, Nat.pow_succ, Nat.mul_comm, ← h]
    refine sumTo_le _ _ _ fun i hi => ?_
    split
    · rw [h]; exact waysN_le L cs _ (by rw [List.length_set]; exact h)
    · exact Nat.zero_le _
/-- graphs of n vertices with e edges: as they are counted -/
def cgsN (n e : Nat) : Nat := sumTo (fun k => waysN (cycL ((actsL n).getD k [])) [((cp n - e : Nat) : Int), (e : Int)]) (actsL n).length
def cgwN (n e : Nat) : Nat := cgsN n e / (actsL n).length
def cgpN (n : Nat) : Nat := sumTo (fun k => 2 ^ (cycL ((actsL n).getD k [])).length) (actsL n).length
def cgCheck (n : Nat) : Bool := (actsL n).all (fun q => permB q && decide (q.length = cp n)) && decide (sumTo (cgwN n) (cp n + 1) = cgpN n / (actsL n).length)
set_option maxRecDepth 100000
theorem cg_all : ∀ n, n < 6 → 2 ≤ n → cgCheck n = true := by decide +kernel
end Go.Proofs.Ytigebaejdghmmaa
