/-
  Plain facts about lists from which elements are struck in place: no program in sight.
-/
import Derived.Test.YtigebaejdghmmaaOw
set_option linter.unusedVariables false
namespace Go.Proofs.Ytigebaejdghmmaa
open Go Go.Proofs.Ytigebaejdghmmaa.Ow
/-- from place i0 + 1 on, k elements looked at: the kept ones moved to the front; how many are kept -/
def delS (p : List Int → Bool) (xss : List (List Int)) (i0 : Nat) : Nat → List (List Int) × Nat
  | 0 => (xss, i0)
  | k + 1 => if p ((delS p xss i0 k).1.getD (i0 + 1 + k) []) = true then delS p xss i0 k else ((delS p xss i0 k).1.set (delS p xss i0 k).2 ((delS p xss i0 k).1.getD (i0 + 1 + k) []), (delS p xss i0 k).2 + 1)
theorem delS_len (p : List Int → Bool) (xss : List (List Int)) (i0 : Nat) : ∀ k, (delS p xss i0 k).1.length = xss.length ∧ (delS p xss i0 k).2 ≤ i0 + k
  | 0 => ⟨rfl, Nat.le_refl _⟩
  | k + 1 => by
    have := delS_len p xss i0 k
    rw [delS]
    split
    · exact ⟨this.1, by omega⟩
    · exact ⟨by rw [List.length_set]; exact this.1, by dsimp only; omega⟩
theorem delS_rest (p : List Int → Bool) (xss : List (List Int)) (i0 : Nat) : ∀ k t, i0 + 1 + k ≤ t → (delS p xss i0 k).1.getD t [] = xss.getD t []
  | 0, t, _ => rfl
  | k + 1, t, h => by
    have h1 := (delS_len p xss i0 k).2
    rw [delS]
    split
    · exact delS_rest p xss i0 k t (by omega)
    · dsimp only
      rw [L_set_ne _ _ _ _ _ (by omega)]
      exact delS_rest p xss i0 k t (by omega)
def kepC (p : List Int → Bool) (xss : List (List Int)) : Nat := (xss.filter fun x => !p x).length
theorem delS_cnt (p : List Int → Bool) (xss : List (List Int)) (i0 : Nat) (h0 : i0 < xss.length) (hh : p (xss.getD i0 []) = true) (hb : ∀ j, j < i0 → p (xss.getD j []) = false) :
    ∀ k, i0 + 1 + k ≤ xss.length → (delS p xss i0 k).2 = kepC p (xss.take (i0 + 1 + k))
  | 0, h => by
    have : ∀ j, j ≤ i0 → kepC p (xss.take j) = j := by
      intro j
      induction j with
      | zero => intro _; simp [kepC]
      | succ j ih =>
        intro hj
        have := ih (by omega)
        unfold kepC at this ⊢
        rw [L_succ _ _ [] (by omega), List.filter_append, List.length_append, this, List.filter_cons_of_pos (by rw [hb j (by omega)]; rfl)]; rfl
    have h1 := this i0 (Nat.le_refl _)
    unfold kepC at h1
    show i0 = kepC p (xss.take (i0 + 1))
    unfold kepC
    rw [L_succ _ _ [] h0, List.filter_append, List.length_append, h1, List.filter_cons_of_neg (by rw [hh]; simp)]; rfl
  | k + 1, h => by
    have ih := delS_cnt p xss i0 h0 hh hb k (by omega)
    have e := delS_rest p xss i0 k (i0 + 1 + k) (Nat.le_refl _)
    have hs : kepC p (xss.take (i0 + 1 + (k + 1))) = kepC p (xss.take (i0 + 1 + k)) + (if p (xss.getD (i0 + 1 + k) []) = true then 0 else 1) := by
      unfold kepC
      rw [show i0 + 1 + (k + 1) = (i0 + 1 + k) + 1 by omega, L_succ _ _ [] (by omega), List.filter_append, List.length_append]
      congr 1
      generalize xss.getD (i0 + 1 + k) [] = x
      cases h : p x <;> simp [h]
    rw [delS, e, hs]
    split
    · rw [ih]; rfl
    · dsimp only; rw [ih]
/-- what is left of the row -/
def delR (p : List Int → Bool) (xss : List (List Int)) (i0 : Nat) : List (List Int) :=
  let s := delS p xss i0 (xss.length - (i0 + 1))
  List.take s.2 s.1 ++ List.replicate (s.1.length - s.2) [] ++ List.drop s.1.length s.1
theorem delR_len (p : List Int → Bool) (xss : List (List Int)) (i0 : Nat) (h : i0 < xss.length) : (delR p xss i0).length = xss.length := by
  have := delS_len p xss i0 (xss.length - (i0 + 1))
  unfold delR
  simp; omega
/-- how many are counted, step by step -/
def cntF (P : List Int → Bool) (xss : List (List Int)) (k : Nat) : Nat := ((xss.take k).filter P).length
theorem cntF_s (P : List Int → Bool) (xss : List (List Int)) (k : Nat) (h : k < xss.length) : cntF P xss (k + 1) = cntF P xss k + if P (xss.getD k []) = true then 1 else 0 := by
  unfold cntF
  rw [L_succ _ _ [] h, List.filter_append, List.length_append]
  congr 1
  generalize xss.getD k [] = x
  cases h : P x <;> simp [h]
theorem cntF_le (P : List Int → Bool) (xss : List (List Int)) (k : Nat) : cntF P xss k ≤ k := by
  unfold cntF
  exact Nat.le_trans (List.length_filter_le _ _) (by rw [List.length_take]; omega)
end Go.Proofs.Ytigebaejdghmmaa
