/-
  Laws about graphs that are drawn: complements, and how many graphs there are.
-/
import Derived.Test.YtbnonelkdgkpdaaPls
import Derived.Test.YtbnonelkdgkpdaaWcgr
import Derived.Test.YtbnonelkdgkpdaaWcur
set_option linter.unusedVariables false
namespace Go.Proofs.Ytbnonelkdgkpdaa
open Go Go.Proofs.Ytbnonelkdgkpdaa.Ow
theorem onesF_le : ∀ f g, onesF f g ≤ f
  | 0, g => Nat.le_refl _
  | f + 1, g => by
    have := onesF_le f (g / 2)
    rw [onesF]; split <;> omega
theorem onesF_0 (f : Nat) : onesF f 0 = 0 := by cases f <;> rfl
theorem cp_mul (n : Nat) (h1 : 1 ≤ n) (hn : n < 6) : ((n : Int) - 1 = ((n - 1 : Nat) : Int)) ∧ ((n : Int) * ((n - 1 : Nat) : Int) = ((n * (n - 1) : Nat) : Int)) := ⟨by omega, by rw [Int.natCast_mul]⟩
theorem dec4 (code : List Int) : ∃ n : Nat, 1 + (mkNum code 1).tmod 4 = n ∧ 1 ≤ n ∧ n < 5 := by
  have hb := mkNum_b code 1
  have ht := Int.tmod_nonneg 4 hb.1
  have ht2 := Int.tmod_lt_of_pos (mkNum code 1) (by decide : (0 : Int) < 4)
  exact ⟨(1 + (mkNum code 1).tmod 4).toNat, by omega, by omega, by omega⟩
theorem dec2p (code : List Int) (k m : Nat) : ∃ g : Nat, (mkNum code k).tmod ((2 ^ m : Nat) : Int) = g ∧ g < 2 ^ m := by
  have hb := mkNum_b code k
  have hp : 0 < 2 ^ m := Nat.pos_of_ne_zero (by simp)
  have ht := Int.tmod_nonneg ((2 ^ m : Nat) : Int) hb.1
  have ht2 := Int.tmod_lt_of_pos (mkNum code k) (show (0 : Int) < ((2 ^ m : Nat) : Int) by omega)
  exact ⟨((mkNum code k).tmod ((2 ^ m : Nat) : Int)).toNat, by omega, by omega⟩
end Go.Proofs.Ytbnonelkdgkpdaa
