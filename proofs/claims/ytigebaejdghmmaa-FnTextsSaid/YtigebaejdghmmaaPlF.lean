/-
  Plain facts about the group of all permutations, as it is found step by step: no program in sight.
-/
import Derived.Test.YtigebaejdghmmaaPlE
set_option linter.unusedVariables false
namespace Go.Proofs.Ytigebaejdghmmaa
open Go Go.Proofs.Ytigebaejdghmmaa.Ow
def idL (n : Nat) : List Int := (List.range n).map fun (x : Nat) => (x : Int)
def turnL (n : Nat) : List Int := (List.range n).map fun (x : Nat) => (((x + 1) % n : Nat) : Int)
def swapL (n : Nat) : List Int := if 1 < n then ((idL n).set 0 1).set 1 0 else idL n
/-- a list of n points of n -/
def okP (n : Nat) (x : List Int) : Bool := decide (x.length = n) && x.all fun a => decide (0 ≤ a) && decide (a < (n : Int))
theorem okP_iff {n : Nat} {x : List Int} (h : okP n x = true) : x.length = n ∧ ∀ i, i < x.length → 0 ≤ x.getD i 0 ∧ x.getD i 0 < (n : Int) := by
  unfold okP at h
  simp only [Bool.and_eq_true, decide_eq_true_eq, List.all_eq_true] at h
  refine ⟨h.1, fun i hi => ?_⟩
  rw [getD_get _ _ _ hi]
  exact h.2 _ (List.getElem_mem hi)
/-- one element met: its products are added at the end -/
def innI (n a : Nat) : List (List Int) → List (List Int) → Option (List (List Int))
  | [], out => some out
  | g :: gs, out => if (out.length ≤ 120 ∧ a < out.length) ∧ okP n (out.getD a []) = true ∧ (out.all fun x => decide (x.length = n)) = true then
      (if (out.any fun x => decide (x = exL (out.getD a []) g)) = true then innI n a gs out
       else if out.length = 120 then none else innI n a gs (out ++ [exL (out.getD a []) g])) else none
def bfsI (n : Nat) (gens : List (List Int)) : Nat → Nat → List (List Int) → Option (List (List Int))
  | 0, _, _ => none
  | f + 1, a, out => if a < out.length then (match innI n a gens out with | none => none | some o => bfsI n gens f (a + 1) o) else some out
/-- the place where a list is put -/
def putN (xss : List (List Int)) (p : List Int) : Nat → Nat → Nat
  | 0, k => k
  | f + 1, k => if k < xss.length ∧ cmpI (xss.getD k []) p < 0 then putN xss p f (k + 1) else k
def putS (xss : List (List Int)) (p : List Int) : List (List Int) := xss.take (putN xss p 200 0) ++ [p] ++ xss.drop (putN xss p 200 0)
def innS (n a : Nat) : List (List Int) → List (List Int) → List (List Int) → Option (List (List Int) × List (List Int))
  | [], out, q => some (out, q)
  | g :: gs, out, q => if (out.length ≤ 120 ∧ q.length ≤ 120 ∧ a < q.length) ∧ okP n (q.getD a []) = true ∧ (out.all fun x => decide (x.length = n)) = true then
      (if 0 ≤ findI out (exL (q.getD a []) g) then innS n a gs out q
       else if out.length = 120 then none else innS n a gs (putS out (exL (q.getD a []) g)) (q ++ [exL (q.getD a []) g])) else none
def bfsS (n : Nat) (gens : List (List Int)) : Nat → Nat → List (List Int) → List (List Int) → Option (List (List Int))
  | 0, _, _, _ => none
  | f + 1, a, out, q => if a < q.length then (match innS n a gens out q with | none => none | some o => bfsS n gens f (a + 1) o.1 o.2) else some out
/-- all permutations of n points, ascending -/
def symL (n : Nat) : List (List Int) := (bfsS n [turnL n, swapL n] 200 0 [idL n] [idL n]).getD []
def symB (n : Nat) : Option (List (List Int)) → Option (List (List Int)) → Bool
  | some s, some o => s.isPerm o && (decide (s.Pairwise fun x y => ¬ cmpI y x < 0) && (s.all (fun x => permB x && decide (x.length = n)) && (decide (1 ≤ s.length) && decide (s.length ≤ 120))))
  | _, _ => false
set_option maxRecDepth 100000
theorem sym_all : ∀ n, n < 6 → 1 ≤ n → symB n (bfsS n [turnL n, swapL n] 200 0 [idL n] [idL n]) (bfsI n [turnL n, swapL n] 200 0 [idL n]) = true := by decide +kernel
theorem sym_gens : ∀ n, n < 6 → 1 ≤ n → (permB (turnL n) = true ∧ (turnL n).length = n) ∧ permB (swapL n) = true ∧ (swapL n).length = n := by decide
structure SymOk (n : Nat) : Prop where
  s : bfsS n [turnL n, swapL n] 200 0 [idL n] [idL n] = some (symL n)
  i : ∃ o, bfsI n [turnL n, swapL n] 200 0 [idL n] = some o ∧ (symL n).Perm o
  so : (symL n).Pairwise fun x y => ¬ cmpI y x < 0
  el : ∀ x ∈ symL n, PermP x ∧ x.length = n
  l1 : 1 ≤ (symL n).length
  l2 : (symL n).length ≤ 120
theorem sym_ok (n : Nat) (hn : n < 6) (h1 : 1 ≤ n) : SymOk n := by
  have h := sym_all n hn h1
  cases hs : bfsS n [turnL n, swapL n] 200 0 [idL n] [idL n] with
  | none => rw [hs] at h; cases h
  | some s =>
    cases hi : bfsI n [turnL n, swapL n] 200 0 [idL n] with
    | none => rw [hs, hi] at h; cases h
    | some o =>
      rw [hs, hi] at h
      have e : symL n = s := by unfold symL; rw [hs]; rfl
      unfold symB at h
      simp only [Bool.and_eq_true, decide_eq_true_eq, List.all_eq_true] at h
      obtain ⟨a, b, c, d1, d2⟩ := h
      refine ⟨by rw [e]; exact hs, ⟨o, hi, ?_⟩, by rw [e]; exact b, fun x hx => ?_, by rw [e]; exact d1, by rw [e]; exact d2⟩
      · rw [e]; exact List.isPerm_iff.1 a
      · rw [e] at hx
        exact ⟨(permB_iff x).1 (c x hx).1, (c x hx).2⟩
end Go.Proofs.Ytigebaejdghmmaa
