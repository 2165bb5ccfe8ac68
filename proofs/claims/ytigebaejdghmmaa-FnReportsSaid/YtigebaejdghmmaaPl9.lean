/-
  Plain facts about the cycles of permutations: no program in sight.
-/
import Derived.Test.YtigebaejdghmmaaPl7
set_option linter.unusedVariables false
namespace Go.Proofs.Ytigebaejdghmmaa
open Go Go.Proofs.Ytigebaejdghmmaa.Ow
/-- how many are not met -/
def cnF (met : List Bool) : Nat := met.count false
theorem cnF_set : ∀ (met : List Bool) (x : Nat), x < met.length → met.getD x false = false → cnF (met.set x true) + 1 = cnF met
  | [], x, h, _ => by simp at h
  | b :: l, 0, _, h => by
    obtain rfl : b = false := h
    simp [cnF]
  | b :: l, x + 1, h, h2 => by
    have := cnF_set l x (by simpa using h) h2
    simp only [cnF, List.set_cons_succ, List.count_cons] at this ⊢
    omega
/-- from x on, until a point is met again -/
def walkC (xs : List Int) : Nat → List Bool → List Int → Nat → List Bool × List Int
  | 0, met, c, _ => (met, c)
  | f + 1, met, c, x => if met.getD x false = true then (met, c) else walkC xs f (met.set x true) (c ++ [(x : Int)]) (xs.getD x 0).toNat
theorem walkC_met (xs : List Int) (f : Nat) (met : List Bool) (c : List Int) (x : Nat) (h : met.getD x false = true) : walkC xs f met c x = (met, c) := by
  cases f with
  | zero => rfl
  | succ f => rw [walkC, if_pos h]
theorem walkC_not (xs : List Int) (f : Nat) (met : List Bool) (c : List Int) (x : Nat) (h : met.getD x false = false) : walkC xs (f + 1) met c x = walkC xs f (met.set x true) (c ++ [(x : Int)]) (xs.getD x 0).toNat := by
  rw [walkC, if_neg (by rw [h]; decide)]
theorem walkC_ok (xs : List Int) (hx : ∀ i, i < xs.length → 0 ≤ xs.getD i 0 ∧ xs.getD i 0 < (xs.length : Int)) : ∀ (f : Nat) (met : List Bool) (c : List Int) (x : Nat), x < xs.length → (∀ y ∈ c, 0 ≤ y ∧ y < (xs.length : Int)) →
    (walkC xs f met c x).1.length = met.length ∧ (∀ y ∈ (walkC xs f met c x).2, 0 ≤ y ∧ y < (xs.length : Int)) ∧ c.length ≤ (walkC xs f met c x).2.length ∧ (walkC xs f met c x).2.length ≤ c.length + f
  | 0, met, c, x, h, hc => ⟨rfl, hc, Nat.le_refl _, Nat.le_refl _⟩
  | f + 1, met, c, x, h, hc => by
    cases hm : met.getD x false with
    | true => rw [walkC_met _ _ _ _ _ hm]; exact ⟨rfl, hc, Nat.le_refl _, by show c.length ≤ _; omega⟩
    | false =>
      rw [walkC_not _ _ _ _ _ hm]
      have hb := hx x h
      obtain ⟨h1, h2, h3, h4⟩ := walkC_ok xs hx f (met.set x true) (c ++ [(x : Int)]) (xs.getD x 0).toNat (by omega) (fun y hy => by
        rcases List.mem_append.1 hy with hy | hy
        · exact hc y hy
        · have : y = (x : Int) := by simpa using hy
          omega)
      simp only [List.length_append, List.length_cons, List.length_nil, List.length_set] at h1 h3 h4
      exact ⟨h1, h2, by omega, by omega⟩
/-- the points met and the cycles, behind the first k points -/
def cycS (xs : List Int) : Nat → List Bool × List (List Int)
  | 0 => (List.replicate xs.length false, [])
  | k + 1 => if (cycS xs k).1.getD k false = true then cycS xs k else ((walkC xs xs.length (cycS xs k).1 [] k).1, (cycS xs k).2 ++ [(walkC xs xs.length (cycS xs k).1 [] k).2])
theorem cyc_yes (xs : List Int) (k : Nat) (h : (cycS xs k).1.getD k false = true) : cycS xs (k + 1) = cycS xs k := by rw [cycS, if_pos h]
theorem cyc_no (xs : List Int) (k : Nat) (h : (cycS xs k).1.getD k false = false) : cycS xs (k + 1) = ((walkC xs xs.length (cycS xs k).1 [] k).1, (cycS xs k).2 ++ [(walkC xs xs.length (cycS xs k).1 [] k).2]) := by
  rw [cycS, if_neg (by rw [h]; decide)]
theorem cyc_ok (xs : List Int) (hx : ∀ i, i < xs.length → 0 ≤ xs.getD i 0 ∧ xs.getD i 0 < (xs.length : Int)) : ∀ k, k ≤ xs.length → (cycS xs k).1.length = xs.length ∧ (cycS xs k).2.length ≤ k ∧
    ∀ c ∈ (cycS xs k).2, 1 ≤ c.length ∧ c.length ≤ xs.length ∧ ∀ x ∈ c, 0 ≤ x ∧ x < (xs.length : Int)
  | 0, _ => ⟨List.length_replicate .., Nat.le_refl _, fun c hc => by simp [cycS] at hc⟩
  | k + 1, hk => by
    obtain ⟨h1, h2, h3⟩ := cyc_ok xs hx k (by omega)
    cases hm : (cycS xs k).1.getD k false with
    | true => rw [cyc_yes _ _ hm]; exact ⟨h1, by omega, h3⟩
    | false =>
      rw [cyc_no _ _ hm]
      obtain ⟨w1, w2, w3, w4⟩ := walkC_ok xs hx xs.length (cycS xs k).1 [] k (by omega) (fun y hy => by simp at hy)
      refine ⟨w1.trans h1, by simp only [List.length_append, List.length_cons, List.length_nil]; omega, fun c hc => ?_⟩
      rcases List.mem_append.1 hc with hc | hc
      · exact h3 c hc
      · have : c = (walkC xs xs.length (cycS xs k).1 [] k).2 := by simpa using hc
        subst this
        refine ⟨?_, by simpa using w4, w2⟩
        obtain ⟨f, hf⟩ : ∃ f, xs.length = f + 1 := ⟨xs.length - 1, by omega⟩
        have hb := hx k (by omega)
        have := (walkC_ok xs hx f ((cycS xs k).1.set k true) ([] ++ [(k : Int)]) (xs.getD k 0).toNat (by omega) (fun y hy => by
          have : y = (k : Int) := by simpa using hy
          omega)).2.2.1
        rw [← walkC_not xs f _ _ _ hm, ← hf] at this
        exact this
/-- the cycles of a permutation -/
def cycL (xs : List Int) : List (List Int) := (cycS xs xs.length).2
/-- the first k cycles as text -/
def fcyS (l : List (List Int)) : Nat → List UInt8
  | 0 => []
  | k + 1 => if 1 < (l.getD k []).length then fcyS l k ++ (40 :: (Lib.join ((l.getD k []).map fmtI) [32] ++ [41])) else fcyS l k
def fmtC (xs : List Int) : List UInt8 := if permB xs = true then (if fcyS (cycL xs) (cycL xs).length = [] then [40, 41] else fcyS (cycL xs) (cycL xs).length) else []
end Go.Proofs.Ytigebaejdghmmaa
