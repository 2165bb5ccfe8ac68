/-
  Plain facts about colorings and their first colors: no program in sight.
-/
import Derived.Test.YtigebaejdghmmaaPl3
set_option linter.unusedVariables false
namespace Go.Proofs.Ytigebaejdghmmaa
open Go Go.Proofs.Ytigebaejdghmmaa.Ow

def okC (x : Int) : Bool := decide (0 ≤ x) && decide (x < 4)
def ColP (xs : List Int) : Prop := (∀ i, i < xs.length → 0 ≤ xs.getD i 0 ∧ xs.getD i 0 < 4) ∧ 1 ≤ xs.length ∧ xs.length ≤ 10
def colB (xs : List Int) : Bool := xs.all okC && decide (1 ≤ xs.length) && decide (xs.length ≤ 10)
theorem colB_iff (xs : List Int) : colB xs = true ↔ ColP xs := by
  unfold colB ColP
  simp only [Bool.and_eq_true, decide_eq_true_eq]
  constructor
  · rintro ⟨⟨h1, h2⟩, h3⟩
    refine ⟨fun i hi => ?_, h2, h3⟩
    rw [List.all_eq_true] at h1
    have := h1 xs[i] (List.getElem_mem hi)
    rw [getD_get _ _ _ hi]
    simpa [okC] using this
  · rintro ⟨h1, h2, h3⟩
    refine ⟨⟨all_of_getD (d := 0) fun j hj => ?_, h2⟩, h3⟩
    have := h1 j hj
    simpa only [okC, Bool.and_eq_true, decide_eq_true_eq] using this
theorem colB_false {xs : List Int} (h : ¬ ColP xs) : colB xs = false := by
  cases e : colB xs
  · rfl
  · exact (h ((colB_iff xs).1 e)).elim

/-- names so far, the next name -/
def fcN (s : List Int × Int) (x : Int) : List Int × Int := if s.1.getD x.toNat 0 < 0 then (s.1.set x.toNat s.2, s.2 + 1) else s
def fcS (xs : List Int) : Nat → (List Int × Int) × List Int
  | 0 => (([-1, -1, -1, -1], 0), [])
  | k + 1 => (fcN (fcS xs k).1 (xs.getD k 0), (fcS xs k).2 ++ [(fcN (fcS xs k).1 (xs.getD k 0)).1.getD (xs.getD k 0).toNat 0])
def firstL (xs : List Int) : List Int := (fcS xs xs.length).2
def mostI (xs : List Int) : Int := if colB xs = true then (fcS xs xs.length).1.2 else 0

structure FcI (xs : List Int) (k : Nat) (s : (List Int × Int) × List Int) : Prop where
  l4 : s.1.1.length = 4
  lo : s.2.length = k
  m0 : 0 ≤ s.1.2
  mK : s.1.2 ≤ k
  nm : ∀ c, c < 4 → -1 ≤ s.1.1.getD c 0 ∧ s.1.1.getD c 0 < s.1.2
  fr : ∀ c, c < 4 → (s.1.1.getD c 0 < 0 ↔ ∀ i, i < k → xs.getD i 0 ≠ (c : Int))
  ob : ∀ i, i < k → 0 ≤ s.2.getD i 0 ∧ s.2.getD i 0 < s.1.2
  om : s.1.2 ≤ 0 ∨ ∃ i, i < k ∧ s.2.getD i 0 = s.1.2 - 1

theorem fcI (xs : List Int) (hx : ∀ i, i < xs.length → 0 ≤ xs.getD i 0 ∧ xs.getD i 0 < 4) : ∀ k, k ≤ xs.length → FcI xs k (fcS xs k)
  | 0, _ => by
    refine ⟨rfl, rfl, Int.le_refl _, Int.le_refl _, by unfold fcS; decide, fun c hc => ⟨fun _ i hi => by omega, fun _ => ?_⟩, fun i hi => by omega, .inl (Int.le_refl _)⟩
    exact (by decide : ∀ c, c < 4 → ([-1, -1, -1, -1] : List Int).getD c 0 < 0) c hc
  | k + 1, hk => by
    have H := fcI xs hx k (by omega)
    have hxk := hx k (by omega)
    obtain ⟨c, hc⟩ : ∃ c : Nat, xs.getD k 0 = c := ⟨(xs.getD k 0).toNat, by omega⟩
    have hc4 : c < 4 := by omega
    unfold fcS
    generalize fcS xs k = s at *
    obtain ⟨⟨names, most⟩, out⟩ := s
    obtain ⟨l4, lo, m0, mK, nm, fr, ob, om⟩ := H
    dsimp only at *
    simp only [hc, Int.toNat_natCast]
    unfold fcN
    dsimp only
    simp only [Int.toNat_natCast]
    split
    · rename_i h0
      have hs : (names.set c most).getD c 0 = most := L_set_self _ _ _ _ (by omega)
      refine ⟨by simp [l4], by simp [lo], by dsimp only; omega, by dsimp only; omega, fun d hd => ?_, fun d hd => ?_, fun i hi => ?_, .inr ⟨k, by omega, ?_⟩⟩
      · dsimp only
        by_cases e : c = d
        · subst e; rw [hs]; omega
        · rw [L_set_ne _ _ _ _ _ e]; have := nm d hd; omega
      · dsimp only
        by_cases e : c = d
        · subst e; rw [hs]
          exact ⟨fun h => by omega, fun h => (h k (by omega) hc).elim⟩
        · rw [L_set_ne _ _ _ _ _ e, fr d hd]
          constructor
          · intro h i hi
            by_cases e2 : i = k
            · subst e2; omega
            · exact h i (by omega)
          · exact fun h i hi => h i (by omega)
      · dsimp only
        rw [hs]
        by_cases e2 : i = k
        · subst e2; rw [L_app_r _ _ _ _ (by omega), lo, Nat.sub_self]; show 0 ≤ most ∧ most < most + 1; omega
        · rw [L_app_l _ _ _ _ (by omega)]; have := ob i (by omega); omega
      · dsimp only
        rw [hs, L_app_r _ _ _ _ (by omega), lo, Nat.sub_self]; show most = most + 1 - 1; omega
    · rename_i h0
      have hn := nm c hc4
      have hnot := fr c hc4
      refine ⟨l4, by simp [lo], m0, by dsimp only; omega, nm, fun d hd => ?_, fun i hi => ?_, ?_⟩
      · dsimp only
        rw [fr d hd]
        constructor
        · intro h i hi
          by_cases e2 : i = k
          · subst e2
            intro e3
            have : c = d := by omega
            subst this
            exact h0 (hnot.2 h)
          · exact h i (by omega)
        · exact fun h i hi => h i (by omega)
      · dsimp only
        by_cases e2 : i = k
        · subst e2; rw [L_app_r _ _ _ _ (by omega), lo, Nat.sub_self]; show 0 ≤ names.getD c 0 ∧ names.getD c 0 < most; omega
        · rw [L_app_l _ _ _ _ (by omega)]; exact ob i (by omega)
      · dsimp only
        rcases om with h | ⟨i, hi, h⟩
        · exact .inl h
        · exact .inr ⟨i, by omega, by rw [L_app_l _ _ _ _ (by omega)]; exact h⟩

theorem fcS_new (xs : List Int) (k c : Nat) (hc : xs.getD k 0 = c) (h : (fcS xs k).1.1.getD c 0 < 0) :
    fcS xs (k + 1) = (((fcS xs k).1.1.set c (fcS xs k).1.2, (fcS xs k).1.2 + 1), (fcS xs k).2 ++ [((fcS xs k).1.1.set c (fcS xs k).1.2).getD c 0]) := by
  rw [fcS, fcN, hc, Int.toNat_natCast, if_pos h]
theorem fcS_old (xs : List Int) (k c : Nat) (hc : xs.getD k 0 = c) (h : ¬ (fcS xs k).1.1.getD c 0 < 0) :
    fcS xs (k + 1) = ((fcS xs k).1, (fcS xs k).2 ++ [(fcS xs k).1.1.getD c 0]) := by
  rw [fcS, fcN, hc, Int.toNat_natCast, if_neg h]
def up (l : List Int) : List Int := l.map (· + 1)
theorem up_len (l : List Int) : (up l).length = l.length := by simp [up]
theorem up_get (l : List Int) (c : Nat) (h : c < l.length) : (up l).getD c 0 = l.getD c 0 + 1 := by
  rw [getD_get _ _ _ (by rw [up_len]; exact h), getD_get _ _ _ h]; simp [up]
theorem up_set (l : List Int) (c : Nat) (m : Int) : (up l).set c (m + 1) = up (l.set c m) := by simp [up, List.map_set]

/-- the greatest element -/
def mxS (xs : List Int) : Nat → Int
  | 0 => xs.getD 0 0
  | k + 1 => if mxS xs k < xs.getD (k + 1) 0 then xs.getD (k + 1) 0 else mxS xs k
def mxL (xs : List Int) : Int := mxS xs (xs.length - 1)
theorem mxS_le (xs : List Int) : ∀ k i, i ≤ k → xs.getD i 0 ≤ mxS xs k
  | 0, i, h => by obtain rfl : i = 0 := by omega
                  exact Int.le_refl _
  | k + 1, i, h => by
    rw [mxS]
    by_cases e : i = k + 1
    · subst e; split <;> omega
    · have := mxS_le xs k i (by omega)
      split <;> omega
theorem mxS_mem (xs : List Int) : ∀ k, ∃ i, i ≤ k ∧ mxS xs k = xs.getD i 0
  | 0 => ⟨0, Nat.le_refl _, rfl⟩
  | k + 1 => by
    rw [mxS]
    split
    · exact ⟨k + 1, Nat.le_refl _, rfl⟩
    · obtain ⟨i, hi, h⟩ := mxS_mem xs k
      exact ⟨i, by omega, h⟩
theorem firstL_len (xs : List Int) (h : ColP xs) : (firstL xs).length = xs.length := (fcI xs h.1 xs.length (Nat.le_refl _)).lo
theorem firstL_max (xs : List Int) (h : ColP xs) : mxL (firstL xs) + 1 = mostI xs := by
  rw [mostI, if_pos ((colB_iff xs).2 h)]
  have H := fcI xs h.1 xs.length (Nat.le_refl _)
  have hl := firstL_len xs h
  unfold mxL
  obtain ⟨i, hi, e⟩ := mxS_mem (firstL xs) ((firstL xs).length - 1)
  have hob := H.ob i (by have := h.2.1; omega)
  have h1 := mxS_le (firstL xs) ((firstL xs).length - 1)
  rw [hl] at h1 e ⊢
  change 0 ≤ (firstL xs).getD i 0 ∧ (firstL xs).getD i 0 < _ at hob
  rcases H.om with h2 | ⟨j, hj, h2⟩
  · have := H.m0; omega
  · have h3 := h1 j (by omega)
    change (firstL xs).getD j 0 = _ at h2
    omega

/-- 1, 2, .. n from k on: the marks -/
def marks (k : Int) : Nat → List Int
  | 0 => []
  | n + 1 => marks k n ++ [k + n]
theorem marks_len (k : Int) : ∀ n, (marks k n).length = n
  | 0 => rfl
  | n + 1 => by simp [marks, marks_len k n]
theorem marks_get (k : Int) : ∀ n j, j < n → (marks k n).getD j 0 = k + (j : Int)
  | n + 1, j, h => by
    rw [marks]
    by_cases e : j = n
    · subst e; rw [L_app_r _ _ _ _ (by rw [marks_len]; omega), marks_len, Nat.sub_self]; rfl
    · rw [L_app_l _ _ _ _ (by rw [marks_len]; omega)]; exact marks_get k n j (by omega)

end Go.Proofs.Ytigebaejdghmmaa
