/-
  Plain facts about pairs of vertices, graphs as numbers, and places in ascending lists: no program in sight.
-/
import Derived.Test.YtigebaejdghmmaaPlA
set_option linter.unusedVariables false
namespace Go.Proofs.Ytigebaejdghmmaa
open Go Go.Proofs.Ytigebaejdghmmaa.Ow
/-! ### bits -/
theorem shr_eq (g i : Nat) (hi : i ≤ 64) : ((g / 2 ^ i : Nat) : Int) = ((g : Nat) : Int).fdiv (2 ^ (min ((i : Nat) : Int).toNat 64)) := by
  rw [Int.toNat_natCast, Nat.min_eq_left hi, Int.natCast_ediv, Int.natCast_pow]
  rw [Int.fdiv_eq_ediv_of_nonneg _ (by exact Int.pow_nonneg (by decide))]
  rfl
theorem ofInt_nat (x : Nat) (h : x < 4611686018427387904) : (BitVec.ofInt 64 ((x : Nat) : Int)).toNat = x := by
  rw [BitVec.toNat_ofInt]
  omega
theorem and1_eq (x : Nat) (h : x < 4611686018427387904) : ((x % 2 : Nat) : Int) = w64 ((BitVec.ofInt 64 ((x : Nat) : Int) &&& BitVec.ofInt 64 1).toNat : Nat) := by
  rw [BitVec.toNat_and, ofInt_nat x h, show (BitVec.ofInt 64 1).toNat = 1 from rfl, Nat.and_one_is_mod]
  exact w64_in _ (by omega) (by omega)
theorem shl_eq (i : Nat) (hi : i ≤ 40) : ((2 ^ i : Nat) : Int) = w64 (1 * 2 ^ (min ((i : Nat) : Int).toNat 64)) := by
  have hp : 2 ^ i ≤ 2 ^ 40 := Nat.pow_le_pow_right (by omega) hi
  have e : ((2 ^ i : Nat) : Int) = 1 * 2 ^ (min ((i : Nat) : Int).toNat 64) := by
    rw [Int.toNat_natCast, Nat.min_eq_left (by omega), Int.one_mul, Int.natCast_pow]
    rfl
  exact w64_eq e (Int.le_trans (by decide) (Int.natCast_nonneg _)) (Int.le_trans (Int.ofNat_le.2 hp) (by decide))
theorem andp_eq (g i : Nat) (hg : g < 4611686018427387904) (hi : i ≤ 40) : (((g / 2 ^ i % 2) * 2 ^ i : Nat) : Int) = w64 ((BitVec.ofInt 64 ((g : Nat) : Int) &&& BitVec.ofInt 64 ((2 ^ i : Nat) : Int)).toNat : Nat) := by
  have hp : 2 ^ i ≤ 2 ^ 40 := Nat.pow_le_pow_right (by omega) hi
  rw [BitVec.toNat_and, ofInt_nat g hg, ofInt_nat (2 ^ i) (by omega)]
  have e : g &&& 2 ^ i = (g / 2 ^ i % 2) * 2 ^ i := by
    have := Nat.mod_lt (g / 2 ^ i) (show 0 < 2 by omega)
    have ht : g.testBit i = decide (g / 2 ^ i % 2 = 1) := Nat.testBit_eq_decide_div_mod_eq
    apply Nat.eq_of_testBit_eq
    intro j
    rw [Nat.testBit_and, Nat.testBit_two_pow]
    by_cases h : g / 2 ^ i % 2 = 1
    · rw [h, Nat.one_mul, Nat.testBit_two_pow]
      by_cases hij : i = j
      · subst hij; simp [ht, h]
      · simp [hij]
    · have h0 : g / 2 ^ i % 2 = 0 := by omega
      rw [h0, Nat.zero_mul, Nat.zero_testBit]
      by_cases hij : i = j
      · subst hij; simp [ht, h]
      · simp [hij]
  rw [e]
  have h1 : (g / 2 ^ i % 2) * 2 ^ i ≤ 1 * 2 ^ i := Nat.mul_le_mul_right _ (by omega)
  exact w64_in _ (by omega) (by omega)
/-- bit i of g -/
def bt (g i : Nat) : Bool := decide (g / 2 ^ i % 2 = 1)
theorem bt_shr (g i : Nat) : ((g / 2 ^ i % 2 : Nat) : Int) = 1 ↔ bt g i = true := by
  unfold bt; rw [decide_eq_true_iff]; omega
theorem bt_and (g i : Nat) : (((g / 2 ^ i % 2) * 2 ^ i : Nat) : Int) ≠ 0 ↔ bt g i = true := by
  have h2 : 0 < 2 ^ i := Nat.pos_of_ne_zero (by simp)
  have := Nat.mod_lt (g / 2 ^ i) (show 0 < 2 by omega)
  unfold bt; rw [decide_eq_true_iff]
  by_cases h : g / 2 ^ i % 2 = 1
  · rw [h, Nat.one_mul]; constructor
    · intro _; rfl
    · intro _; omega
  · have h0 : g / 2 ^ i % 2 = 0 := by omega
    rw [h0, Nat.zero_mul]; simp
/-! ### places in ascending lists -/
def bsI (xss : List (List Int)) (p : List Int) : Nat → Nat → Nat → Nat
  | 0, i, _ => i
  | f + 1, i, j => if i < j then (if cmpI (xss.getD ((i + j) / 2) []) p < 0 then bsI xss p f ((i + j) / 2 + 1) j else bsI xss p f i ((i + j) / 2)) else i
theorem bsI_le (xss : List (List Int)) (p : List Int) : ∀ f i j, i ≤ j → bsI xss p f i j ≤ j
  | 0, i, j, h => h
  | f + 1, i, j, h => by
    rw [bsI]
    split
    · split
      · exact bsI_le xss p f _ _ (by omega)
      · exact Nat.le_trans (bsI_le xss p f _ _ (by omega)) (by omega)
    · exact h
def bsN (xss : List (List Int)) (p : List Int) : Nat := bsI xss p xss.length 0 xss.length
/-- the place of a list; -1 if it is not there -/
def findI (xss : List (List Int)) (p : List Int) : Int := if bsN xss p < xss.length ∧ xss.getD (bsN xss p) [] = p then (bsN xss p : Nat) else -1
/-! ### pairs -/
def subL (n : Nat) : Nat → Nat → List (List Int)
  | 0, _ => [[]]
  | k + 1, from_ => (List.range' from_ (n - from_)).flatMap fun a => (subL n k (a + 1)).map fun l => (a : Int) :: l
/-- those whose first point is below a -/
def subP (n k from_ a : Nat) : List (List Int) := (List.range' from_ (a - from_)).flatMap fun a => (subL n k (a + 1)).map fun l => (a : Int) :: l
theorem subP_all (n k from_ : Nat) : subP n k from_ n = subL n (k + 1) from_ := rfl
theorem subP_s (n k from_ a : Nat) (h : from_ ≤ a) : subP n k from_ (a + 1) = subP n k from_ a ++ (subL n k (a + 1)).map fun l => (a : Int) :: l := by
  unfold subP
  rw [show a + 1 - from_ = (a - from_) + 1 by omega, List.range'_concat, List.flatMap_append]
  simp [show from_ + (a - from_) = a by omega]
theorem subP_len : ∀ n, n < 6 → ∀ k, k < 3 → ∀ f, f < 7 → ∀ a, a < 6 → (subP n k f a).length ≤ 32 ∧ (subL n k f).length ≤ 32 := by decide
theorem subL_el (n : Nat) : ∀ k, k < 3 → ∀ f j, ((subL n k f).getD j []).length ≤ 1048576 := by
  have h : ∀ k f, ∀ l ∈ subL n k f, l.length = k := by
    intro k
    induction k with
    | zero => intro f l hl; simp [subL] at hl; rw [hl]; rfl
    | succ k ih =>
      intro f l hl
      rw [subL] at hl
      obtain ⟨a, _, ha⟩ := List.mem_flatMap.1 hl
      obtain ⟨l', hl', rfl⟩ := List.mem_map.1 ha
      rw [List.length_cons, ih _ _ hl']
  intro k hk f j
  by_cases hj : j < (subL n k f).length
  · rw [getD_get _ _ _ hj, h k f _ (List.getElem_mem hj)]; omega
  · rw [List.getD_eq_getElem?_getD, List.getElem?_eq_none (by omega)]; simp
/-- the pairs of n vertices -/
def pairsL (n : Nat) : List (List Int) := subL n 2 0
/-- the points of a set of n points -/
def bitsL (n s : Nat) : List Int := ((List.range n).filter fun i => bt s i).map fun (i : Nat) => (i : Int)
/-- the sets below S that have k points -/
def subsS (n k S : Nat) : List (List Int) := ((List.range S).map fun s => bitsL n s).filter fun l => l.length = k
theorem bitsL_yes (n s : Nat) (h : bt s n = true) : bitsL (n + 1) s = bitsL n s ++ [(n : Int)] := by
  unfold bitsL
  rw [List.range_succ, List.filter_append, List.map_append]
  simp [h]
theorem bitsL_no (n s : Nat) (h : ¬ bt s n = true) : bitsL (n + 1) s = bitsL n s := by
  unfold bitsL
  rw [List.range_succ, List.filter_append, List.map_append]
  simp [h]
theorem bitsL_len (n s : Nat) : (bitsL n s).length ≤ n := by
  unfold bitsL
  rw [List.length_map]
  exact Nat.le_trans (List.length_filter_le _ _) (by simp)
theorem subsS_yes (n k s : Nat) (h : (bitsL n s).length = k) : subsS n k (s + 1) = subsS n k s ++ [bitsL n s] := by
  unfold subsS
  rw [List.range_succ, List.map_append, List.filter_append]
  simp [h]
theorem subsS_no (n k s : Nat) (h : ¬ (bitsL n s).length = k) : subsS n k (s + 1) = subsS n k s := by
  unfold subsS
  rw [List.range_succ, List.map_append, List.filter_append]
  simp [h]
theorem subsS_len (n k S : Nat) : (subsS n k S).length ≤ S := by
  unfold subsS
  exact Nat.le_trans (List.length_filter_le _ _) (by simp)
theorem pairs_perm : ∀ n, n < 6 → 2 ≤ n → (pairsL n).Perm (subsS n 2 (2 ^ n)) := by decide
theorem pairs_sorted : ∀ n, n < 6 → (pairsL n).Pairwise fun x y => ¬ cmpI y x < 0 := by decide
theorem pairs_ne : ∀ n, n < 6 → 2 ≤ n → subsS n 2 (2 ^ n) ≠ [] ∧ (∀ xs ∈ subsS n 2 (2 ^ n), xs ≠ [] ∧ xs.length ≤ 1048576) := by decide
theorem pairs_len : ∀ n, n < 6 → (pairsL n).length = n * (n - 1) / 2 := by decide
/-- the pairs are two points, the less first -/
theorem pairs_get : ∀ n, n < 6 → ∀ l ∈ pairsL n, l.length = 2 ∧ 0 ≤ l.getD 0 0 ∧ l.getD 0 0 < l.getD 1 0 ∧ l.getD 1 0 < (n : Int) := by decide
end Go.Proofs.Ytigebaejdghmmaa
