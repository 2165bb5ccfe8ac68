/-
  Plain facts about the least graphs of their kinds, and complements: no program in sight.
-/
import Derived.Test.YtigebaejdghmmaaPlH
set_option linter.unusedVariables false
namespace Go.Proofs.Ytigebaejdghmmaa
open Go Go.Proofs.Ytigebaejdghmmaa.Ow
/-- the least among the first k renamed graphs -/
def canF (n g k : Nat) : Int := ((symL n).take k).foldl (fun b p => mnI b ((renN g p : Nat) : Int)) (g : Int)
theorem canF_s (n g k : Nat) (hk : k < (symL n).length) : canF n g (k + 1) = mnI (canF n g k) ((renN g ((symL n).getD k []) : Nat) : Int) := by
  unfold canF
  rw [L_succ (symL n) k [] hk, List.foldl_append]; rfl
def canI (n g : Nat) : Int := canF n g (symL n).length
def canZ (n g : Int) : Int := if graphB n g = true then canI n.toNat g.toNat else -1
def sameG (n g h : Int) : Bool := graphB n g && graphB n h && decide (canZ n g = canZ n h)
theorem graphB_lt {n g : Nat} (h : graphB (n : Nat) (g : Nat) = true) : g < 2 ^ cp n := by
  have := of_decide_eq_true h
  rw [Int.toNat_natCast] at this
  omega
def compI (n g : Int) : Int := if graphB n g = true then ((2 ^ cp n.toNat : Nat) : Int) - 1 - g else 0
def selfB (n g : Int) : Bool := graphB n g && sameG n g (compI n g)
/-- the graphs among the first k that are the least of their kind -/
def lstG (n k : Nat) : List Int := ((List.range k).filter fun (g : Nat) => decide (canI n g = (g : Int))).map fun (g : Nat) => (g : Int)
theorem lstG_yes (n k : Nat) (h : canI n k = (k : Int)) : lstG n (k + 1) = lstG n k ++ [(k : Int)] := by
  unfold lstG
  rw [List.range_succ, List.filter_append, List.map_append]
  simp [h]
theorem lstG_no (n k : Nat) (h : ¬ canI n k = (k : Int)) : lstG n (k + 1) = lstG n k := by
  unfold lstG
  rw [List.range_succ, List.filter_append, List.map_append]
  simp [h]
theorem lstG_len (n k : Nat) : (lstG n k).length ≤ k := by
  unfold lstG
  rw [List.length_map]
  exact Nat.le_trans (List.length_filter_le _ _) (by simp)
theorem graphB_of (n k : Nat) (h1 : 1 ≤ n) (hn : n < 6) (hk : k < 2 ^ cp n) : graphB (n : Nat) (k : Nat) = true := by
  refine decide_eq_true ⟨⟨by omega, by omega⟩, by omega, ?_⟩
  rw [Int.toNat_natCast]; omega
def cgwI (n e : Int) : Int := if 1 ≤ n ∧ n ≤ 5 then (if 0 ≤ e ∧ e ≤ ((cp n.toNat : Nat) : Int) then (if n = 1 then 1 else ((cgwN n.toNat e.toNat : Nat) : Int)) else 0) else -1
def cgI (n : Int) : Int := if 1 ≤ n ∧ n ≤ 5 then (if n = 1 then 1 else ((sumTo (cgwN n.toNat) (cp n.toNat + 1) : Nat) : Int)) else -1
end Go.Proofs.Ytigebaejdghmmaa
