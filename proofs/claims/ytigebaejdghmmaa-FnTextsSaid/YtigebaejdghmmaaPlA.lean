/-
  Plain facts about rotated words: no program in sight.
-/
import Derived.Test.YtigebaejdghmmaaPl5
set_option linter.unusedVariables false
namespace Go.Proofs.Ytigebaejdghmmaa
open Go Go.Proofs.Ytigebaejdghmmaa.Ow
/-- the word with its first k letters at its end -/
def rot (xs : List Int) (k : Nat) : List Int := xs.drop k ++ xs.take k
theorem rot_len (xs : List Int) (k : Nat) (h : k ≤ xs.length) : (rot xs k).length = xs.length := by simp [rot]; omega
theorem rot_zero (xs : List Int) : rot xs 0 = xs := by simp [rot]
/-- lists compared: -1, 0, 1 -/
def cmpI : List Int → List Int → Int
  | [], [] => 0
  | [], _ :: _ => -1
  | _ :: _, [] => 1
  | x :: xs, y :: ys => if x < y then -1 else if y < x then 1 else cmpI xs ys
theorem cmpI_refl : ∀ xs, cmpI xs xs = 0
  | [] => rfl
  | x :: xs => by simp [cmpI, cmpI_refl xs]
theorem cmpI_b : ∀ xs ys, -1 ≤ cmpI xs ys ∧ cmpI xs ys ≤ 1
  | [], [] => by decide
  | [], _ :: _ => by simp [cmpI]
  | _ :: _, [] => by simp [cmpI]
  | x :: xs, y :: ys => by
    have := cmpI_b xs ys
    simp only [cmpI]
    split
    · omega
    · split <;> omega
theorem cmpI_eq : ∀ xs ys, cmpI xs ys = 0 → xs = ys
  | [], [], _ => rfl
  | [], _ :: _, h => by simp [cmpI] at h
  | _ :: _, [], h => by simp [cmpI] at h
  | x :: xs, y :: ys, h => by
    simp only [cmpI] at h
    split at h
    · omega
    · split at h
      · omega
      · have e : x = y := by omega
        rw [e, cmpI_eq xs ys h]
theorem cmpI_neg : ∀ xs ys, cmpI ys xs = - cmpI xs ys
  | [], [] => rfl
  | [], _ :: _ => rfl
  | _ :: _, [] => rfl
  | x :: xs, y :: ys => by
    have := cmpI_neg xs ys
    simp only [cmpI]
    by_cases h1 : x < y
    · have h2 : ¬ y < x := by omega
      simp [h1, h2]
    · by_cases h2 : y < x
      · simp [h1, h2]
      · simp [h1, h2, this]
theorem cmpI_trans : ∀ xs ys zs, cmpI xs ys < 0 → cmpI ys zs < 0 → cmpI xs zs < 0
  | [], [], zs, h1, h2 => by simp [cmpI] at h1
  | [], y :: ys, [], h1, h2 => by simp [cmpI] at h2
  | [], y :: ys, z :: zs, h1, h2 => by simp [cmpI]
  | x :: xs, [], zs, h1, h2 => by simp [cmpI] at h1
  | x :: xs, y :: ys, [], h1, h2 => by simp [cmpI] at h2
  | x :: xs, y :: ys, z :: zs, h1, h2 => by
    simp only [cmpI] at h1 h2 ⊢
    by_cases a1 : x < y
    · by_cases a2 : y < z
      · rw [if_pos (by omega)]; decide
      · rw [if_neg a2] at h2
        by_cases a3 : z < y
        · rw [if_pos a3] at h2; omega
        · rw [if_pos (by omega)]; decide
    · rw [if_neg a1] at h1
      by_cases a3 : y < x
      · rw [if_pos a3] at h1; omega
      · rw [if_neg a3] at h1
        by_cases a2 : y < z
        · rw [if_pos (by omega)]; decide
        · rw [if_neg a2] at h2
          by_cases a4 : z < y
          · rw [if_pos a4] at h2; omega
          · rw [if_neg a4] at h2
            rw [if_neg (by omega), if_neg (by omega)]
            exact cmpI_trans xs ys zs h1 h2
theorem cmpI_drop (xs ys : List Int) (i : Nat) (h1 : i < xs.length) (h2 : i < ys.length) : cmpI (xs.drop i) (ys.drop i) = if xs.getD i 0 < ys.getD i 0 then -1 else if ys.getD i 0 < xs.getD i 0 then 1 else cmpI (xs.drop (i + 1)) (ys.drop (i + 1)) := by
  rw [List.drop_eq_getElem_cons h1, List.drop_eq_getElem_cons h2, getD_get _ _ _ h1, getD_get _ _ _ h2]
  rfl
/-- the first of the places from which the least word begins, among the first k -/
def bestR (xs : List Int) : Nat → Nat
  | 0 => 0
  | k + 1 => if cmpI (rot xs k) (rot xs (bestR xs k)) < 0 then k else bestR xs k
theorem bestR_lt (xs : List Int) : ∀ k, 0 < k → bestR xs k < k
  | 1, _ => by
    unfold bestR
    split
    · omega
    · exact Nat.zero_lt_one
  | k + 2, _ => by
    have := bestR_lt xs (k + 1) (by omega)
    rw [bestR]
    split <;> omega
theorem bestR_zero (xs : List Int) : ∀ k, bestR xs k = 0 ∨ cmpI (rot xs (bestR xs k)) xs < 0
  | 0 => .inl rfl
  | k + 1 => by
    have ih := bestR_zero xs k
    rw [bestR]
    split
    · rename_i h
      right
      rcases ih with ih | ih
      · rw [ih, rot_zero] at h; exact h
      · exact cmpI_trans _ _ _ h ih
    · exact ih
/-- the least rotation -/
def least (xs : List Int) : List Int := rot xs (bestR xs xs.length)
theorem least_len (xs : List Int) (h : 0 < xs.length) : (least xs).length = xs.length := rot_len _ _ (Nat.le_of_lt (bestR_lt xs _ h))
theorem least_iff (xs : List Int) : least xs = xs ↔ bestR xs xs.length = 0 := by
  constructor
  · intro h
    rcases bestR_zero xs xs.length with h1 | h1
    · exact h1
    · unfold least at h
      rw [h, cmpI_refl] at h1
      omega
  · intro h
    rw [least, h, rot_zero]
/-- the first period from k on (f: how many are still to be tried) -/
def perF (xs : List Int) (k : Nat) : Nat → Nat
  | 0 => xs.length
  | f + 1 => if xs.length % k = 0 ∧ rot xs k = xs then k else perF xs (k + 1) f
def perW (xs : List Int) : Nat := perF xs 1 (xs.length - 1)
theorem perF_le (xs : List Int) : ∀ f k, k + f ≤ xs.length → perF xs k f ≤ xs.length
  | 0, k, _ => Nat.le_refl _
  | f + 1, k, h => by
    rw [perF]
    split
    · omega
    · exact perF_le xs f (k + 1) (by omega)
theorem perW_le (xs : List Int) (h : 0 < xs.length) : perW xs ≤ xs.length := perF_le xs _ _ (by omega)
theorem colP_mem {xs ys : List Int} (h : ColP xs) (hl : ys.length = xs.length) (hm : ∀ y ∈ ys, y ∈ xs) : ColP ys := by
  refine ⟨fun i hi => ?_, by rw [hl]; exact h.2⟩
  rw [getD_get _ _ _ hi]
  obtain ⟨j, hj, e⟩ := List.getElem_of_mem (hm _ (List.getElem_mem hi))
  have := h.1 j hj
  rw [getD_get _ _ _ hj, e] at this
  exact this
theorem colP_rot {xs : List Int} (h : ColP xs) (k : Nat) (hk : k ≤ xs.length) : ColP (rot xs k) :=
  colP_mem h (rot_len xs k hk) fun y hy => by
    rcases List.mem_append.1 hy with hy | hy
    · exact List.mem_of_mem_drop hy
    · exact List.mem_of_mem_take hy
theorem colP_rev {xs : List Int} (h : ColP xs) : ColP xs.reverse := colP_mem h (List.length_reverse) fun y hy => List.mem_reverse.1 hy
theorem colP_in {xs : List Int} (h : ColP xs) : In64 xs := fun i hi => by have := h.1 i hi; omega
/-- a word's kind -/
def kindW (xs : List Int) : List UInt8 := if least xs = least xs.reverse then [109, 105, 114, 114, 111, 114, 101, 100] else if least (least xs) = least xs ∧ perW (least xs) = (least xs).length then [108, 121, 110, 100, 111, 110] else [112, 108, 97, 105, 110]
def wordLine (xs : List Int) : List UInt8 := if colB xs = true then formatW (least xs) ++ [32, 112, 101, 114, 105, 111, 100, 32] ++ fmtN (perW xs) ++ [32] ++ kindW xs else [110, 111, 110, 101]
end Go.Proofs.Ytigebaejdghmmaa
