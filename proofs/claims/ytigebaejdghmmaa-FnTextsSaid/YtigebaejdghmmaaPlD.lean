/-
  Plain facts about graphs read from text: no program in sight.
-/
import Derived.Test.YtigebaejdghmmaaPlC
set_option linter.unusedVariables false
namespace Go.Proofs.Ytigebaejdghmmaa
open Go Go.Proofs.Ytigebaejdghmmaa.Ow
/-- the words ahead of the last blank among the first k signs, and where the next one begins -/
def spS (t : List UInt8) : Nat → List (List UInt8) × Nat
  | 0 => ([], 0)
  | k + 1 => if t.getD k 0 = 32 then ((spS t k).1 ++ [(t.take k).drop (spS t k).2], k + 1) else spS t k
theorem spS_b (t : List UInt8) : ∀ k, (spS t k).1.length ≤ k ∧ (spS t k).2 ≤ k
  | 0 => ⟨Nat.le_refl _, Nat.le_refl _⟩
  | k + 1 => by
    have := spS_b t k
    rw [spS]
    split
    · simp; omega
    · omega
/-- the words between blanks -/
def wordsB (t : List UInt8) : List (List UInt8) := (spS t t.length).1 ++ [t.drop (spS t t.length).2]
/-- the texts of the pairs -/
def pairT (n : Nat) : List (List UInt8) := (pairsL n).map fun p => [UInt8.ofNat (48 + (p.getD 0 0).toNat), UInt8.ofNat (48 + (p.getD 1 0).toNat)]
/-- the bits of the pairs among the first k that are this word -/
def orW (ts : List (List UInt8)) (w : List UInt8) (g : Nat) : Nat → Nat
  | 0 => g
  | k + 1 => if w = ts.getD k [] then orW ts w g k ||| 2 ^ k else orW ts w g k
theorem orW_lt (ts : List (List UInt8)) (w : List UInt8) (g L : Nat) (hg : g < 2 ^ L) : ∀ k, k ≤ L → orW ts w g k < 2 ^ L
  | 0, _ => hg
  | k + 1, hk => by
    have := orW_lt ts w g L hg k (by omega)
    rw [orW]
    split
    · have h2 : 2 ^ k < 2 ^ L := Nat.pow_lt_pow_right (by omega) (by omega)
      exact Nat.or_lt_two_pow this h2
    · exact this
/-- the graph of some words -/
def orWs (ts : List (List UInt8)) (ws : List (List UInt8)) : Nat := ws.foldl (fun g w => orW ts w g ts.length) 0
theorem orWs_lt (ts : List (List UInt8)) (ws : List (List UInt8)) : orWs ts ws < 2 ^ ts.length := by
  unfold orWs
  have : ∀ (ws : List (List UInt8)) (g : Nat), g < 2 ^ ts.length → ws.foldl (fun g w => orW ts w g ts.length) g < 2 ^ ts.length := by
    intro ws
    induction ws with
    | nil => intro g h; exact h
    | cons w r ih => intro g h; exact ih _ (orW_lt ts w g _ h _ (Nat.le_refl _))
  exact this ws 0 (Nat.pos_of_ne_zero (by simp))
theorem orWs_s (ts : List (List UInt8)) (ws : List (List UInt8)) (k : Nat) (h : k < ws.length) : orWs ts (ws.take (k + 1)) = orW ts (ws.getD k []) (orWs ts (ws.take k)) ts.length := by
  unfold orWs
  rw [L_succ ws k [] h, List.foldl_append]; rfl
theorem pairT_len : ∀ n, n < 6 → (pairT n).length = cp n ∧ (pairsL n).length = cp n ∧ cp n ≤ 10 := by decide
theorem or_eq (x y : Nat) (hx : x < 1024) (hy : y < 1024) : ((x ||| y : Nat) : Int) = w64 ((BitVec.ofInt 64 ((x : Nat) : Int) ||| BitVec.ofInt 64 ((y : Nat) : Int)).toNat : Nat) := by
  rw [BitVec.toNat_or, ofInt_nat x (by omega), ofInt_nat y (by omega)]
  have := Nat.or_lt_two_pow (n := 10) hx hy
  exact w64_in _ (by omega) (by omega)
/-- joined by blanks -/
def jnB : List (List UInt8) → List UInt8
  | [] => []
  | [w] => w
  | w :: r => w ++ (32 :: jnB r)
/-- a graph as text -/
def grT (n g : Nat) : List UInt8 :=
  let l := ((List.range (pairsL n).length).filter fun i => bt g i).map fun i => (pairT n).getD i []
  if l = [] then [45] else jnB l
theorem rt_all : ∀ n, n < 6 → ∀ g, g < 2 ^ cp n → orWs (pairT n) (wordsB (grT n g)) = g := by decide +kernel
end Go.Proofs.Ytigebaejdghmmaa
