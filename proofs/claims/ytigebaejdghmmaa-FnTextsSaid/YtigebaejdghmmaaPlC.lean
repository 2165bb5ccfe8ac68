/-
  Plain facts about edges and degrees of graphs: no program in sight.
-/
import Derived.Test.YtigebaejdghmmaaPlB
set_option linter.unusedVariables false
namespace Go.Proofs.Ytigebaejdghmmaa
open Go Go.Proofs.Ytigebaejdghmmaa.Ow
/-- the number of pairs -/
def cp (n : Nat) : Nat := n * (n - 1) / 2
theorem cp_le : ∀ n, n < 6 → cp n ≤ 10 ∧ n * (n - 1) ≤ 20 ∧ 2 ^ cp n ≤ 1024 := by decide
/-- these are a graph's numbers -/
def graphB (n g : Int) : Bool := decide ((1 ≤ n ∧ n ≤ 5) ∧ 0 ≤ g ∧ g < ((2 ^ cp n.toNat : Nat) : Int))
theorem graphB_ok {n g : Int} (h : graphB n g = true) : ∃ n' g' : Nat, n = n' ∧ g = g' ∧ 1 ≤ n' ∧ n' < 6 ∧ g' < 1024 := by
  have h := of_decide_eq_true h
  have h1 := (cp_le n.toNat (by omega)).2.2
  exact ⟨n.toNat, g.toNat, by omega, by omega, by omega, by omega, by omega⟩
def mnI (a b : Int) : Int := if b < a then b else a
def mxI (a b : Int) : Int := if a < b then b else a
/-- the first pair of these two points, from place k on; 0 if there is none -/
def pixF (xss : List (List Int)) (mn mx : Int) (k : Nat) : Nat → Nat
  | 0 => 0
  | f + 1 => if (xss.getD k []).getD 0 0 = mn ∧ (xss.getD k []).getD 1 0 = mx then k else pixF xss mn mx (k + 1) f
theorem pixF_le (xss : List (List Int)) (mn mx : Int) : ∀ f k, pixF xss mn mx k f ≤ k + f
  | 0, k => by simp [pixF]
  | f + 1, k => by
    rw [pixF]
    split
    · omega
    · have := pixF_le xss mn mx f (k + 1)
      omega
theorem pix_find : ∀ n, n < 6 → ∀ j, j < n → ∀ i, i < j → findI (pairsL n) [(i : Int), (j : Int)] = (pixF (pairsL n) (i : Int) (j : Int) 0 (pairsL n).length : Nat) := by decide
theorem find_no (n : Nat) (hn : n < 6) (mn mx : Int) (h : ¬ (0 ≤ mn ∧ mn < mx ∧ mx < (n : Int))) : findI (pairsL n) [mn, mx] = -1 := by
  unfold findI
  rw [if_neg]
  rintro ⟨h1, h2⟩
  rw [getD_get _ _ _ h1] at h2
  have := pairs_get n hn _ (List.getElem_mem h1)
  rw [h2] at this
  exact h ⟨this.2.1, this.2.2.1, this.2.2.2⟩
theorem find_b (xss : List (List Int)) (p : List Int) : findI xss p = -1 ∨ ∃ i : Nat, i < xss.length ∧ findI xss p = (i : Nat) := by
  unfold findI
  split
  · rename_i h; exact .inr ⟨_, h.1, rfl⟩
  · exact .inl rfl
/-- an edge of a graph -/
def hasE (n g a b : Int) : Bool := graphB n g && (decide ((0 ≤ a ∧ a ≤ n - 1) ∧ (0 ≤ b ∧ b ≤ n - 1) ∧ a ≠ b) && bt g.toNat (pixF (pairsL n.toNat) (mnI a b) (mxI a b) 0 (pairsL n.toNat).length))
/-- the edges among the first k pairs -/
def edgL (xss : List (List Int)) (g k : Nat) : List (List Int) := ((List.range k).filter fun i => bt g i).map fun i => xss.getD i []
theorem edgL_yes (xss : List (List Int)) (g k : Nat) (h : bt g k = true) : edgL xss g (k + 1) = edgL xss g k ++ [xss.getD k []] := by
  unfold edgL
  rw [List.range_succ, List.filter_append, List.map_append]
  simp [h]
theorem edgL_no (xss : List (List Int)) (g k : Nat) (h : ¬ bt g k = true) : edgL xss g (k + 1) = edgL xss g k := by
  unfold edgL
  rw [List.range_succ, List.filter_append, List.map_append]
  simp [h]
theorem edgL_len (xss : List (List Int)) (g k : Nat) : (edgL xss g k).length ≤ k := by
  unfold edgL
  rw [List.length_map]
  exact Nat.le_trans (List.length_filter_le _ _) (by simp)
theorem edgL_mem (xss : List (List Int)) (g : Nat) : ∀ l ∈ edgL xss g xss.length, l ∈ xss := by
  intro l hl
  obtain ⟨i, hi, rfl⟩ := List.mem_map.1 hl
  have := List.mem_range.1 (List.mem_filter.1 hi).1
  rw [getD_get _ _ _ this]
  exact List.getElem_mem _
def inc1 (d : List Int) (x : Int) : List Int := d.set x.toNat (d.getD x.toNat 0 + 1)
/-- one edge more -/
def incP (d : List Int) (p : List Int) : List Int := inc1 (inc1 d (p.getD 0 0)) (p.getD 1 0)
/-- the degrees that k lists of edges make -/
def degF (n : Nat) (es : List (List Int)) : List Int := es.foldl incP (List.replicate n 0)
theorem degF_snoc (n : Nat) (es : List (List Int)) (p : List Int) : degF n (es ++ [p]) = incP (degF n es) p := by simp [degF]
theorem inc1_b (d : List Int) (x : Int) (n : Nat) (m : Int) (h : d.length = n ∧ ∀ j, j < n → 0 ≤ d.getD j 0 ∧ d.getD j 0 ≤ m) : (inc1 d x).length = n ∧ ∀ j, j < n → 0 ≤ (inc1 d x).getD j 0 ∧ (inc1 d x).getD j 0 ≤ m + 1 := by
  refine ⟨by rw [inc1, List.length_set]; exact h.1, fun j hj => ?_⟩
  have hj' := h.2 j hj
  unfold inc1
  by_cases e : x.toNat = j
  · rw [e, L_set_self _ _ _ _ (by omega)]; omega
  · rw [L_set_ne _ _ _ _ _ e]; omega
theorem degF_b (n : Nat) : ∀ (k : Nat) (es : List (List Int)), es.length = k → (degF n es).length = n ∧ ∀ j, j < n → 0 ≤ (degF n es).getD j 0 ∧ (degF n es).getD j 0 ≤ (2 * k : Nat)
  | 0, es, h => by
    obtain rfl := List.eq_nil_of_length_eq_zero h
    refine ⟨by simp [degF], fun j hj => ?_⟩
    have : (degF n []).getD j 0 = 0 := by unfold degF; rw [List.foldl_nil, getD_get _ _ _ (by simpa using hj), List.getElem_replicate]
    rw [this]; simp
  | k + 1, es, h => by
    have hne : es ≠ [] := by intro e; rw [e] at h; simp at h
    obtain ⟨es', p, rfl⟩ : ∃ es' p, es = es' ++ [p] := ⟨es.dropLast, es.getLast hne, (List.dropLast_concat_getLast hne).symm⟩
    have ih := degF_b n k es' (by simpa using h)
    rw [degF_snoc]
    have h1 := inc1_b _ (p.getD 0 0) n _ ih
    have h2 := inc1_b _ (p.getD 1 0) n _ h1
    refine ⟨h2.1, fun j hj => ?_⟩
    have := h2.2 j hj
    unfold incP
    omega
/-- the degrees of a graph -/
def degL (n g : Nat) : List Int := degF n (edgL (pairsL n) g (pairsL n).length)
end Go.Proofs.Ytigebaejdghmmaa
