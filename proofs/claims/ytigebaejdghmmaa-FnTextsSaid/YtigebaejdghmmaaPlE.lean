/-
  Plain facts about the pairs that permutations carry, and renamed graphs: no program in sight.
-/
import Derived.Test.YtigebaejdghmmaaPlD
import Derived.Test.YtigebaejdghmmaaPl6
set_option linter.unusedVariables false
namespace Go.Proofs.Ytigebaejdghmmaa
open Go Go.Proofs.Ytigebaejdghmmaa.Ow
/-- the place of the pair to which a pair is carried -/
def paN (p l : List Int) : Nat := pixF (pairsL p.length) (mnI (p.getD (l.getD 0 0).toNat 0) (p.getD (l.getD 1 0).toNat 0)) (mxI (p.getD (l.getD 0 0).toNat 0) (p.getD (l.getD 1 0).toNat 0)) 0 (pairsL p.length).length
def pactL (p : List Int) : List Int := (pairsL p.length).map fun l => ((paN p l : Nat) : Int)
theorem map_snoc {α β : Type} (f : α → β) (xs : List α) (k : Nat) (d : α) (h : k < xs.length) : (xs.take (k + 1)).map f = (xs.take k).map f ++ [f (xs.getD k d)] := by
  rw [L_succ xs k d h, List.map_append]; rfl
theorem flag_pair : ∀ n, n < 6 → ∀ u, u < n → ∀ v, v < n → u ≠ v → ((List.range n).filter fun x => (((List.replicate n false).set u true).set v true).getD x false).map (fun (x : Nat) => (x : Int)) = [mnI u v, mxI u v] := by decide
theorem idx_pair : ∀ n, n < 6 → ∀ j, j < n → ∀ i, i < j → ((List.range (pairsL n).length).filter fun q => decide ([(i : Int), (j : Int)] = (pairsL n).getD q [])).map (fun (x : Nat) => (x : Int)) = [((pixF (pairsL n) (i : Int) (j : Int) 0 (pairsL n).length : Nat) : Int)] := by decide
/-- the points that a list is carried to, marked -/
def flgL (n : Nat) (p l : List Int) : List Bool := l.foldl (fun f a => f.set (p.getD a.toNat 0).toNat true) (List.replicate n false)
theorem flgL_len (n : Nat) (p : List Int) : ∀ l, (flgL n p l).length = n := by
  have : ∀ (l : List Int) (f : List Bool), (l.foldl (fun f a => f.set (p.getD a.toNat 0).toNat true) f).length = f.length := by
    intro l
    induction l with
    | nil => intro f; rfl
    | cons a r ih => intro f; rw [List.foldl_cons, ih, List.length_set]
  intro l
  rw [flgL, this, List.length_replicate]
theorem flgL_s (n : Nat) (p l : List Int) (k : Nat) (h : k < l.length) : flgL n p (l.take (k + 1)) = (flgL n p (l.take k)).set (p.getD (l.getD k 0).toNat 0).toNat true := by
  unfold flgL
  rw [L_succ l k 0 h, List.foldl_append]; rfl
/-- the marked points among the first k -/
def mkdL (f : List Bool) (k : Nat) : List Int := ((List.range k).filter fun x => f.getD x false).map fun (x : Nat) => (x : Int)
theorem mkdL_yes (f : List Bool) (k : Nat) (h : f.getD k false = true) : mkdL f (k + 1) = mkdL f k ++ [(k : Int)] := by
  unfold mkdL
  rw [List.range_succ, List.filter_append, List.map_append]
  simp [-List.getD_eq_getElem?_getD, h]
theorem mkdL_no (f : List Bool) (k : Nat) (h : f.getD k false = false) : mkdL f (k + 1) = mkdL f k := by
  unfold mkdL
  rw [List.range_succ, List.filter_append, List.map_append]
  simp [-List.getD_eq_getElem?_getD, h]
theorem mkdL_len (f : List Bool) (k : Nat) : (mkdL f k).length ≤ k := by
  unfold mkdL
  rw [List.length_map]
  exact Nat.le_trans (List.length_filter_le _ _) (by simp)
/-- the places of a list among the first k -/
def plcL (xss : List (List Int)) (y : List Int) (k : Nat) : List Int := ((List.range k).filter fun q => decide (y = xss.getD q [])).map fun (x : Nat) => (x : Int)
theorem plcL_yes (xss : List (List Int)) (y : List Int) (k : Nat) (h : y = xss.getD k []) : plcL xss y (k + 1) = plcL xss y k ++ [(k : Int)] := by
  unfold plcL
  rw [List.range_succ, List.filter_append, List.map_append]
  simp [-List.getD_eq_getElem?_getD, h]
theorem plcL_no (xss : List (List Int)) (y : List Int) (k : Nat) (h : ¬ y = xss.getD k []) : plcL xss y (k + 1) = plcL xss y k := by
  unfold plcL
  rw [List.range_succ, List.filter_append, List.map_append]
  simp [-List.getD_eq_getElem?_getD, h]
theorem plcL_len (xss : List (List Int)) (y : List Int) (k : Nat) : (plcL xss y k).length ≤ k := by
  unfold plcL
  rw [List.length_map]
  exact Nat.le_trans (List.length_filter_le _ _) (by simp)
/-- the bits that are carried by the first k places -/
def renL (g : Nat) (xs : List Int) : Nat → Nat
  | 0 => 0
  | k + 1 => if bt g k = true then renL g xs k ||| 2 ^ (xs.getD k 0).toNat else renL g xs k
theorem renL_lt (g L : Nat) (xs : List Int) (hx : ∀ i, i < xs.length → (xs.getD i 0).toNat < L) : ∀ k, k ≤ xs.length → renL g xs k < 2 ^ L
  | 0, _ => Nat.pos_of_ne_zero (by simp)
  | k + 1, hk => by
    have ih := renL_lt g L xs hx k (by omega)
    rw [renL]
    split
    · have h2 : 2 ^ (xs.getD k 0).toNat < 2 ^ L := Nat.pow_lt_pow_right (by omega) (hx k (by omega))
      exact Nat.or_lt_two_pow ih h2
    · exact ih
theorem shlb_eq (b x : Nat) (hb : b ≤ 1) (hx : x ≤ 40) : ((b * 2 ^ x : Nat) : Int) = w64 (((b : Nat) : Int) * 2 ^ (min ((x : Nat) : Int).toNat 64)) := by
  have hp : 2 ^ x ≤ 2 ^ 40 := Nat.pow_le_pow_right (by omega) hx
  have hbp : b * 2 ^ x ≤ 1 * 2 ^ 40 := Nat.mul_le_mul hb hp
  have e : ((b * 2 ^ x : Nat) : Int) = ((b : Nat) : Int) * 2 ^ (min ((x : Nat) : Int).toNat 64) := by
    rw [Int.toNat_natCast, Nat.min_eq_left (by omega), Int.natCast_mul, Int.natCast_pow]
    rfl
  exact w64_eq e (Int.le_trans (by decide) (Int.natCast_nonneg _)) (Int.le_trans (Int.ofNat_le.2 hbp) (by decide))
/-- a graph renamed -/
def renN (g : Nat) (p : List Int) : Nat := renL g (pactL p) (pactL p).length
theorem pix_lt : ∀ n, n < 6 → 2 ≤ n → ∀ j, j < n → ∀ i, i < j → pixF (pairsL n) (i : Int) (j : Int) 0 (pairsL n).length < cp n := by decide
/-- what is known of a pair that is carried -/
structure Car (p l : List Int) (u v : Nat) : Prop where
  fu : p.getD (l.getD 0 0).toNat 0 = (u : Int)
  fv : p.getD (l.getD 1 0).toNat 0 = (v : Int)
  lu : u < p.length
  lv : v < p.length
  ne : u ≠ v
theorem car_of {p : List Int} (hP : PermP p) (hn : p.length < 6) {l : List Int} (hl : l ∈ pairsL p.length) : ∃ u v, Car p l u v := by
  have h := pairs_get _ hn l hl
  have h1 := hP.2 (l.getD 0 0).toNat (by omega)
  have h2 := hP.2 (l.getD 1 0).toNat (by omega)
  have h3 := h2.2 (l.getD 0 0).toNat (by omega)
  exact ⟨(p.getD (l.getD 0 0).toNat 0).toNat, (p.getD (l.getD 1 0).toNat 0).toNat, by omega, by omega, by omega, by omega, by omega⟩
theorem car_lt {p l : List Int} {u v : Nat} (h : Car p l u v) (hn : p.length < 6) (h2 : 2 ≤ p.length) : paN p l < cp p.length := by
  unfold paN
  rw [h.fu, h.fv]
  unfold mnI mxI
  have := h.ne
  by_cases e : u < v
  · rw [if_neg (by omega), if_pos (by omega)]
    exact pix_lt _ hn h2 v h.lv u e
  · rw [if_pos (by omega), if_neg (by omega)]
    exact pix_lt _ hn h2 u h.lu v (by omega)
theorem car_find {p l : List Int} {u v : Nat} (h : Car p l u v) (hn : p.length < 6) : findI (pairsL p.length) [mnI u v, mxI u v] = (paN p l : Nat) := by
  unfold paN
  rw [h.fu, h.fv]
  unfold mnI mxI
  have := h.ne
  by_cases e : u < v
  · rw [if_neg (by omega), if_pos (by omega)]
    exact pix_find _ hn v h.lv u e
  · rw [if_pos (by omega), if_neg (by omega)]
    exact pix_find _ hn u h.lu v (by omega)
theorem car_plc {p l : List Int} {u v : Nat} (h : Car p l u v) (hn : p.length < 6) : plcL (pairsL p.length) [mnI u v, mxI u v] (pairsL p.length).length = [((paN p l : Nat) : Int)] := by
  unfold paN
  rw [h.fu, h.fv]
  unfold mnI mxI plcL
  have := h.ne
  by_cases e : u < v
  · rw [if_neg (by omega), if_pos (by omega)]
    exact idx_pair _ hn v h.lv u e
  · rw [if_pos (by omega), if_neg (by omega)]
    exact idx_pair _ hn u h.lu v (by omega)
theorem car_img {p l : List Int} {u v : Nat} (h : Car p l u v) (hn : p.length < 6) (hl : l.length = 2) : mkdL (flgL p.length p l) p.length = [mnI u v, mxI u v] := by
  have e : flgL p.length p l = ((List.replicate p.length false).set u true).set v true := by
    match l, hl, h with
    | [a, b], _, h =>
      have h1 : p.getD a.toNat 0 = (u : Int) := h.fu
      have h2 : p.getD b.toNat 0 = (v : Int) := h.fv
      show ((List.replicate p.length false).set (p.getD a.toNat 0).toNat true).set (p.getD b.toNat 0).toNat true = _
      rw [h1, h2, Int.toNat_natCast, Int.toNat_natCast]
  rw [e]
  exact flag_pair _ hn u h.lu v h.lv h.ne
end Go.Proofs.Ytigebaejdghmmaa
