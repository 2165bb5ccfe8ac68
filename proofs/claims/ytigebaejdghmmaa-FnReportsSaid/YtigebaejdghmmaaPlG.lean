/-
  Plain facts about counting by exchanged colors: no program in sight.
-/
import Derived.Test.YtigebaejdghmmaaPlF
import Derived.Test.YtigebaejdghmmaaPl9
set_option linter.unusedVariables false
namespace Go.Proofs.Ytigebaejdghmmaa
open Go Go.Proofs.Ytigebaejdghmmaa.Ow
/-- how many of the first j points are carried to themselves -/
def fixN (x : List Int) : Nat → Nat
  | 0 => 0
  | j + 1 => if x.getD j 0 = (j : Int) then fixN x j + 1 else fixN x j
theorem fixN_le (x : List Int) : ∀ j, fixN x j ≤ j
  | 0 => Nat.le_refl _
  | j + 1 => by
    have := fixN_le x j
    rw [fixN]; split <;> omega
def powL (h : List Int) : Nat → List Int
  | 0 => idL h.length
  | c + 1 => exL (powL h c) h
theorem powL_ok (h : List Int) (hh : ∀ i, i < h.length → 0 ≤ h.getD i 0 ∧ h.getD i 0 < (h.length : Int)) : ∀ c, (powL h c).length = h.length ∧ ∀ i, i < (powL h c).length → 0 ≤ (powL h c).getD i 0 ∧ (powL h c).getD i 0 < (h.length : Int)
  | 0 => by
    refine ⟨by simp [powL, idL], fun i hi => ?_⟩
    have hi2 : i < h.length := by simpa [powL, idL] using hi
    rw [getD_get _ _ _ hi]
    simp only [powL, idL, List.getElem_map, List.getElem_range]
    omega
  | c + 1 => by
    have ih := powL_ok h hh c
    have hl : (powL h (c + 1)).length = h.length := by rw [powL, exL_len]; exact ih.1
    refine ⟨hl, fun i hi => ?_⟩
    have hb := ih.2 i (by omega)
    have e : (powL h (c + 1)).getD i 0 = h.getD ((powL h c).getD i 0).toNat 0 := by
      have hi2 : i < (powL h c).length := by omega
      rw [getD_get (powL h (c + 1)) i 0 hi, getD_get (powL h c) i 0 hi2]
      simp only [powL, exL, List.getElem_map]
    rw [e]
    exact hh _ (by omega)
def kepN (h : List Int) (c : Nat) : Nat := fixN (powL h c) h.length
def prdN (h : List Int) (cs : List (List Int)) : Nat → Nat
  | 0 => 1
  | j + 1 => prdN h cs j * kepN h (cs.getD j []).length
theorem prdN_le (h : List Int) (cs : List (List Int)) (hl : h.length ≤ 4) : ∀ j, prdN h cs j ≤ 4 ^ j
  | 0 => Nat.le_refl _
  | j + 1 => by
    rw [prdN, Nat.pow_succ]
    exact Nat.mul_le_mul (prdN_le h cs hl j) (Nat.le_trans (fixN_le _ _) hl)
def sumH (p : List Int) (S : List (List Int)) : Nat → Nat
  | 0 => 0
  | b + 1 => sumH p S b + prdN (S.getD b []) (cycL p) (cycL p).length
def sumG (g S : List (List Int)) : Nat → Nat
  | 0 => 0
  | a + 1 => sumG g S a + sumH (g.getD a []) S S.length
theorem prdN_le2 (h : List Int) (cs : List (List Int)) (hl : h.length ≤ 4) (hc : cs.length ≤ 10) (j : Nat) (hj : j ≤ cs.length) : prdN h cs j ≤ 1048576 :=
  Nat.le_trans (prdN_le h cs hl j) (Nat.le_trans (Nat.pow_le_pow_right (by decide) (show j ≤ 10 by omega)) (by decide))
theorem sumH_le (p : List Int) (S : List (List Int)) (hS : ∀ b, b < S.length → (S.getD b []).length ≤ 4) (hc : (cycL p).length ≤ 10) : ∀ b, b ≤ S.length → sumH p S b ≤ b * 1048576
  | 0, _ => by simp [sumH]
  | b + 1, hb => by
    have h1 := sumH_le p S hS hc b (by omega)
    have h2 := prdN_le2 (S.getD b []) (cycL p) (hS b (by omega)) hc (cycL p).length (Nat.le_refl _)
    rw [sumH]; omega
theorem sumG_le (g S : List (List Int)) (hS : ∀ b, b < S.length → (S.getD b []).length ≤ 4) (hl : S.length ≤ 120) (hc : ∀ a, a < g.length → (cycL (g.getD a [])).length ≤ 10) : ∀ a, a ≤ g.length → sumG g S a ≤ a * (120 * 1048576)
  | 0, _ => by simp [sumG]
  | a + 1, ha => by
    have h1 := sumG_le g S hS hl hc a (by omega)
    have h2 := sumH_le (g.getD a []) S hS (hc a (by omega)) S.length (Nat.le_refl _)
    rw [sumG]; omega
end Go.Proofs.Ytigebaejdghmmaa
