/-
  Plain facts about permutations and exchanged colors: no program in sight.
-/
import Derived.Test.YtigebaejdghmmaaPl5
set_option linter.unusedVariables false
namespace Go.Proofs.Ytigebaejdghmmaa
open Go Go.Proofs.Ytigebaejdghmmaa.Ow

/-- a permutation of at most ten points -/
def PermP (xs : List Int) : Prop := (1 ≤ xs.length ∧ xs.length ≤ 10) ∧ ∀ i, i < xs.length → (0 ≤ xs.getD i 0 ∧ xs.getD i 0 < (xs.length : Int)) ∧ ∀ j, j < i → xs.getD j 0 ≠ xs.getD i 0
def permB (xs : List Int) : Bool := (decide (1 ≤ xs.length) && decide (xs.length ≤ 10)) && (List.range xs.length).all fun i => (decide (0 ≤ xs.getD i 0) && decide (xs.getD i 0 < (xs.length : Int))) && (List.range i).all fun j => decide (xs.getD j 0 ≠ xs.getD i 0)
theorem permB_iff (xs : List Int) : permB xs = true ↔ PermP xs := by
  unfold permB PermP
  simp only [Bool.and_eq_true, decide_eq_true_eq, List.all_eq_true, List.mem_range]
theorem permB_false {xs : List Int} (h : ¬ PermP xs) : permB xs = false := by
  cases hb : permB xs
  · rfl
  · exact (h ((permB_iff xs).1 hb)).elim
/-- what is met so far -/
structure MetI (xs : List Int) (k : Nat) (n : Nat) (met : List Bool) : Prop where
  l : met.length = n
  ok : ∀ i, i < k → (0 ≤ xs.getD i 0 ∧ xs.getD i 0 < (xs.length : Int)) ∧ ∀ j, j < i → xs.getD j 0 ≠ xs.getD i 0
  m : ∀ c, c < n → (met.getD c false = true ↔ ∃ i, i < k ∧ xs.getD i 0 = (c : Int))
theorem metI0 (xs : List Int) (n : Nat) : MetI xs 0 n (List.replicate n false) := by
  refine ⟨by simp, fun i hi => by omega, fun c hc => ⟨fun h => ?_, fun ⟨i, hi, _⟩ => by omega⟩⟩
  rw [getD_get _ _ _ (by simpa using hc), List.getElem_replicate] at h
  cases h
theorem metI_step {xs : List Int} {k n c : Nat} {met : List Bool} (h : MetI xs k n met) (hc : xs.getD k 0 = (c : Int)) (hcn : c < n) (hcl : c < xs.length) (h0 : met.getD c false = false) : MetI xs (k + 1) n (met.set c true) := by
  refine ⟨by simp [h.l], fun i hi => ?_, fun d hd => ?_⟩
  · by_cases e : i = k
    · subst e
      refine ⟨by omega, fun j hj e2 => ?_⟩
      have := (h.m c hcn).2 ⟨j, hj, by omega⟩
      rw [h0] at this; cases this
    · exact h.ok i (by omega)
  · by_cases e : c = d
    · subst e
      rw [L_set_self _ _ _ _ (by rw [h.l]; exact hd)]
      exact ⟨fun _ => ⟨k, by omega, hc⟩, fun _ => rfl⟩
    · rw [L_set_ne _ _ _ _ _ e, h.m d hd]
      constructor
      · rintro ⟨i, hi, e2⟩; exact ⟨i, by omega, e2⟩
      · rintro ⟨i, hi, e2⟩
        refine ⟨i, ?_, e2⟩
        by_cases e3 : i = k
        · subst e3; omega
        · omega
theorem metI_dup {xs : List Int} {k n c : Nat} {met : List Bool} (h : MetI xs k n met) (hk : k < xs.length) (hc : xs.getD k 0 = (c : Int)) (hcn : c < n) (h0 : met.getD c false = true) : ¬ PermP xs := by
  intro hp
  obtain ⟨i, hi, e⟩ := (h.m c hcn).1 h0
  exact (hp.2 k hk).2 i hi (by omega)

/-- the colors exchanged -/
def exL (xs h : List Int) : List Int := xs.map fun x => h.getD x.toNat 0
theorem exL_len (xs h : List Int) : (exL xs h).length = xs.length := by simp [exL]
theorem exL_succ (xs h : List Int) (k : Nat) (hk : k < xs.length) : exL (xs.take (k + 1)) h = exL (xs.take k) h ++ [h.getD (xs.getD k 0).toNat 0] := by
  rw [L_succ xs k 0 hk]; simp only [exL, List.map_append, List.map_cons, List.map_nil]
/-- all elements are less than k -/
def belowB (xs : List Int) (k : Int) : Bool := xs.all fun x => decide (x < k)
theorem belowB_iff (xs : List Int) (k : Int) : belowB xs k = true ↔ ∀ i, i < xs.length → xs.getD i 0 < k := by
  unfold belowB
  rw [List.all_eq_true]
  constructor
  · intro h i hi
    have := h xs[i] (List.getElem_mem hi)
    rw [getD_get _ _ _ hi]; simpa using this
  · intro h x hx
    obtain ⟨i, hi, rfl⟩ := List.getElem_of_mem hx
    have := h i hi
    rw [getD_get _ _ _ hi] at this; simpa using this
theorem belowB_false {xs : List Int} {k : Int} (i : Nat) (hi : i < xs.length) (h : ¬ xs.getD i 0 < k) : belowB xs k = false := by
  cases hb : belowB xs k
  · rfl
  · exact (h ((belowB_iff xs k).1 hb i hi)).elim
def exB (xs h : List Int) : Bool := colB xs && permB h && decide (h.length ≤ 4) && belowB xs h.length

end Go.Proofs.Ytigebaejdghmmaa
