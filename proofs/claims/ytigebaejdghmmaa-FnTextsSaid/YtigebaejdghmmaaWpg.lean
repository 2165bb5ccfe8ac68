/-
  Contracts of the functions that read graphs from text.
-/
import Derived.Test.YtigebaejdghmmaaWfg
import Derived.Test.YtigebaejdghmmaaPlD
set_option linter.unusedVariables false
namespace Go.Proofs.Ytigebaejdghmmaa
open Go Go.Proofs.Ytigebaejdghmmaa.Ow
theorem jnB_join : ∀ l : List (List UInt8), Lib.join l [32] = jnB l
  | [] => rfl
  | [w] => Lib.join_one w [32]
  | w :: x :: r => by
    have e := jnB_join (x :: r)
    rw [Lib.join_cons] at e ⊢
    show _ = w ++ (32 :: jnB (x :: r))
    rw [← e]
    simp [Lib.joinTail]
theorem pairT_get (n : Nat) (hn : n < 6) (i : Nat) (hi : i < (pairsL n).length) : fmtP ((pairsL n).getD i []) = (pairT n).getD i [] := by
  have hq := (pairs_short n hn).2 i hi
  have h2 : i < (pairT n).length := by rw [pairT, List.length_map]; exact hi
  have e : (pairT n).getD i [] = [UInt8.ofNat (48 + (((pairsL n).getD i []).getD 0 0).toNat), UInt8.ofNat (48 + (((pairsL n).getD i []).getD 1 0).toNat)] := by
    rw [getD_get _ _ _ h2, getD_get _ _ _ hi]
    simp only [pairT, List.getElem_map]
  rw [e]
  generalize (pairsL n).getD i [] = p at *
  unfold fmtP fmtI
  rw [if_neg (by omega), if_neg (by omega), fmtN_lt _ (by omega), fmtN_lt _ (by omega)]
  have e1 : (p.getD 0 0).natAbs = (p.getD 0 0).toNat := by omega
  have e2 : (p.getD 1 0).natAbs = (p.getD 1 0).toNat := by omega
  rw [e1, e2]; rfl
theorem fmtG_grT (n g : Nat) (hn : n < 6) (h : graphB (n : Nat) (g : Nat) = true) : fmtG (n : Nat) (g : Nat) = grT n g := by
  rw [fmtG, if_pos h, Int.toNat_natCast, Int.toNat_natCast]
  have e : (edgL (pairsL n) g (pairsL n).length).map fmtP = ((List.range (pairsL n).length).filter fun i => bt g i).map fun i => (pairT n).getD i [] := by
    unfold edgL
    rw [List.map_map]
    refine List.map_congr_left fun i hi => ?_
    exact pairT_get n hn i (List.mem_range.1 (List.mem_filter.1 hi).1)
  have hl : (edgL (pairsL n) g (pairsL n).length).length = ((edgL (pairsL n) g (pairsL n).length).map fmtP).length := (List.length_map ..).symm
  unfold fmtEs grT
  rw [hl, e, jnB_join]
  generalize (((List.range (pairsL n).length).filter fun i => bt g i).map fun i => (pairT n).getD i []) = l
  cases l with
  | nil => rfl
  | cons w r => simp
theorem graphB_lt (n g : Nat) (h1 : 1 ≤ n) (hn : n < 6) : graphB (n : Nat) (g : Nat) = true ↔ g < 2 ^ cp n := by
  unfold graphB
  rw [decide_eq_true_iff, Int.toNat_natCast]
  constructor
  · intro h; exact Int.ofNat_lt.1 h.2.2
  · intro h; exact ⟨by omega, by omega, Int.ofNat_lt.2 h⟩
/-- the graph of a text -/
def parG (n : Nat) (t : List UInt8) : Nat := orWs (pairT n) (wordsB t)
theorem parG_lt (n : Nat) (hn : n < 6) (t : List UInt8) : parG n t < 2 ^ cp n := by
  have := orWs_lt (pairT n) (wordsB t)
  rwa [(pairT_len n hn).1] at this
theorem parG_fmt (n g : Nat) (h1 : 1 ≤ n) (hn : n < 6) (hg : g < 2 ^ cp n) : parG n (fmtG (n : Nat) (g : Nat)) = g := by
  rw [fmtG_grT n g hn ((graphB_lt n g h1 hn).2 hg)]
  exact rt_all n hn g hg
def parB (n : Nat) (t : List UInt8) : Bool := decide (fmtG (n : Nat) (parG n t : Nat) = t)
theorem impl_ParseGraph_loop (n : Nat) (h1 : 1 ≤ n) (hn : n < 6) (t : List UInt8) (r : List AV)
    (hno : parB n t = false → r = [I 0, .d true .bool false]) (hyes : parB n t = true → r = [I (parG n t : Nat), .d true .bool true]) : AC Try.prog 46 [I (n : Nat), .d true .str t] [] r [] := by
  have hc := cp_le n hn
  refine AC_of tauOk 23 0 [4, 5] Try.func46 rfl (by kernel_rfl) rfl rfl rfl rfl rfl ?_
  refine ⟨[], false, _, _, impl_isVertices _, List.nodup_nil, rfl, rfl, trivial, fun h => ?_, fun h => (of_decide_eq_false h ⟨by omega, by omega⟩).elim⟩
  refine ⟨[], false, _, _, impl_countPairs n h1 hn, List.nodup_nil, rfl, rfl, trivial, Int.natCast_nonneg _, ((2 ^ cp n : Nat) : Int), shl_eq _ (by omega), ?_⟩
  refine ⟨Nat, fun g => ⟨[(0, I (n : Nat)), (1, .d true .str t), (12, I (2 ^ cp n : Nat)), (13, I (g : Nat))], []⟩, fun g => g ≤ 2 ^ cp n ∧ ∀ i, i < g → fmtG (n : Nat) (i : Nat) ≠ t, fun g => 2 ^ cp n - g, 0, ⟨Nat.zero_le _, fun i hi => by omega⟩,
    ⟨⟨rfl, rfl⟩, ⟨rfl, rfl, rfl, rfl, trivial⟩, trivial⟩, fun g ⟨hg, hall⟩ => ?_⟩
  refine ⟨fun h2 => ?_, fun h2 => ?_⟩
  · have hg2 : g < 2 ^ cp n := Int.ofNat_lt.1 h2
    refine ⟨[], false, _, _, impl_FormatGraph _ _, List.nodup_nil, rfl, rfl, trivial, fun h3 => ?_, fun h3 => ?_⟩
    · have e : parG n t = g := by rw [← h3]; exact parG_fmt n g h1 hn hg2
      obtain rfl := hyes (decide_eq_true (by rw [e]; exact h3))
      exact ⟨none, ⟨retI (by rw [e]), rfl, trivial⟩, rfl, rfl⟩
    · refine ⟨((g + 1 : Nat) : Int), w64_eq (by omega) (by omega) (by omega), g + 1, ⟨by omega, fun i hi => ?_⟩, by dsimp only; omega, ⟨rfl, rfl⟩, ⟨rfl, rfl, rfl, rfl, trivial⟩, trivial⟩
      by_cases e : i = g
      · subst e; exact h3
      · exact hall i (by omega)
  · obtain rfl := hno (decide_eq_false (hall _ (by have := parG_lt n hn t; have : ¬ g < 2 ^ cp n := fun e => h2 (Int.ofNat_lt.2 e); omega)))
    exact ⟨none, ⟨rfl, rfl, trivial⟩, rfl, rfl⟩
theorem impl_ParseGraph_bad (n : Int) (t : List UInt8) (h : ¬ (1 ≤ n ∧ n ≤ 5)) : AC Try.prog 46 [I n, .d true .str t] [] [I 0, .d true .bool false] [] := by
  refine AC_of tauOk 23 0 [4, 5] Try.func46 rfl (by kernel_rfl) rfl rfl rfl rfl rfl ?_
  refine ⟨[], false, _, _, impl_isVertices _, List.nodup_nil, rfl, rfl, trivial, fun h2 => ?_, fun h2 => ?_⟩
  · exact (h (of_decide_eq_true h2)).elim
  · exact ⟨none, ⟨rfl, rfl, trivial⟩, rfl, rfl⟩
end Go.Proofs.Ytigebaejdghmmaa
