/-
  Contracts of HasEdge, DegreesOf and of the lists of edges.
-/
import Derived.Test.YtigebaejdghmmaaWgr
set_option linter.unusedVariables false
namespace Go.Proofs.Ytigebaejdghmmaa
open Go Go.Proofs.Ytigebaejdghmmaa.Ow
theorem pairs_short (n : Nat) (hn : n < 6) : (pairsL n).length ≤ 10 ∧ ∀ i, i < (pairsL n).length → ((pairsL n).getD i []).length = 2 ∧ 0 ≤ ((pairsL n).getD i []).getD 0 0 ∧ ((pairsL n).getD i []).getD 0 0 < ((pairsL n).getD i []).getD 1 0 ∧ ((pairsL n).getD i []).getD 1 0 < (n : Int) := by
  have h1 : ∀ n, n < 6 → (pairsL n).length ≤ 10 := by decide
  refine ⟨h1 n hn, fun i hi => ?_⟩
  rw [getD_get _ _ _ hi]
  exact pairs_get n hn _ (List.getElem_mem hi)
theorem find_pix (n : Nat) (hn : n < 6) (a b : Int) (ha : 0 ≤ a ∧ a ≤ (n : Int) - 1) (hb : 0 ≤ b ∧ b ≤ (n : Int) - 1) (hab : a ≠ b) : findI (pairsL n) [mnI a b, mxI a b] = (pixF (pairsL n) (mnI a b) (mxI a b) 0 (pairsL n).length : Nat) := by
  have key := fun (i j : Nat) (hij : i < j) (hj : j < n) => pix_find n hn j hj i hij
  unfold mnI mxI
  by_cases h : a < b
  · rw [if_neg (by omega), if_pos h]
    have := key a.toNat b.toNat (by omega) (by omega)
    rwa [show ((a.toNat : Nat) : Int) = a by omega, show ((b.toNat : Nat) : Int) = b by omega] at this
  · rw [if_pos (by omega), if_neg h]
    have := key b.toNat a.toNat (by omega) (by omega)
    rwa [show ((a.toNat : Nat) : Int) = a by omega, show ((b.toNat : Nat) : Int) = b by omega] at this
end Go.Proofs.Ytigebaejdghmmaa
