/-
  Plain facts about the heights of the vertices of a rooted tree: no program in sight.
-/
import Derived.Test.YtigebaejdghmmaaPl
set_option linter.unusedVariables false
namespace Go.Proofs.Ytigebaejdghmmaa
open Go Go.Proofs.Ytigebaejdghmmaa.Ow

def mx (x y : Int) : Int := if x < y then y else x
def htS (xs : List Int) : Nat → List Int × Int
  | 0 => (List.replicate xs.length 0, 0)
  | k + 1 => if 0 < k then ((htS xs k).1.set k ((htS xs k).1.getD (xs.getD k 0).toNat 0 + 1), mx (htS xs k).2 ((htS xs k).1.getD (xs.getD k 0).toNat 0 + 1)) else htS xs k
def heightV (xs : List Int) : Int := if treeB xs = true then (htS xs xs.length).2 else -1

theorem htS_len (xs : List Int) : ∀ k, (htS xs k).1.length = xs.length
  | 0 => by simp [htS]
  | k + 1 => by
    unfold htS
    split
    · simp [htS_len xs k]
    · exact htS_len xs k
theorem rep_getD (n j : Nat) : (List.replicate n (0 : Int)).getD j 0 = 0 := by
  simp only [List.getD, List.getElem?_replicate]
  split <;> rfl
theorem htS_b (xs : List Int) : ∀ k j, 0 ≤ (htS xs k).1.getD j 0 ∧ (htS xs k).1.getD j 0 ≤ k
  | 0, j => by unfold htS; rw [rep_getD]; omega
  | k + 1, j => by
    have h := htS_b xs k
    unfold htS
    split
    · dsimp only
      have h1 := h j
      have h2 := h (xs.getD k 0).toNat
      by_cases e : k = j
      · subst e
        by_cases hl : k < (htS xs k).1.length
        · rw [L_set_self _ _ _ _ hl]; omega
        · rw [List.set_eq_of_length_le (by omega)]; omega
      · rw [L_set_ne _ _ _ _ _ e]; omega
    · have h1 := h j
      omega
theorem htS_0 (xs : List Int) : htS xs (0 + 1) = htS xs 0 := rfl
theorem htS_s (xs : List Int) (k : Nat) (h : 0 < k) : htS xs (k + 1) = ((htS xs k).1.set k ((htS xs k).1.getD (xs.getD k 0).toNat 0 + 1), mx (htS xs k).2 ((htS xs k).1.getD (xs.getD k 0).toNat 0 + 1)) := by rw [htS, if_pos h]

end Go.Proofs.Ytigebaejdghmmaa
