/-
  Contracts of the functions that read graphs from text.
-/
import Derived.Test.YtekknbcojfaohaaWfg
import Derived.Test.YtekknbcojfaohaaPlD
set_option linter.unusedVariables false
namespace Go.Proofs.Ytekknbcojfaohaa
open Go Go.Proofs.Ytekknbcojfaohaa.Ow
theorem jnB_join : ∀ l : List (List UInt8), Lib.join l [32] = jnB l
  | [] => rfl
  | [w] => Lib.join_one w [32]
  | w :: x :: r => by
    have e := jnB_join (x :: r)
    rw [Lib.join_cons] at e ⊢
    show _ = w ++ (32 :: jnB (x :: r))
    rw [← e]
    simp [Lib.joinTail]
theorem pairT_get (n : Nat) (hn : n < 6) (i : Nat) (hi : i < (pairsL n).length) : fmtP ((pairsL n).getD i []) = (pairT n).getD i [] := by
  have hq := (pairs_short n hn).2 i hi
  have h2 : i < (pairT n).length := by rw [pairT, List.length_map]; exact hi
  have e : (pairT n).getD i [] = [UInt8.ofNat (48 + (((pairsL n).getD i []).getD 0 0).toNat), UInt8.ofNat (48 + (((pairsL n).getD i []).getD 1 0).toNat)] := by
    rw [getD_get _ _ _ h2, getD_get _ _ _ hi]
    simp only [pairT, List.getElem_map]
  rw [e]
  generalize (pairsL n).getD i [] = p at *
  unfold fmtP fmtI
  rw [if_neg (by omega), if_neg (by omega), fmtN_lt _ (by omega), fmtN_lt _ (by omega)]
  have e1 : (p.getD 0 0).natAbs = (p.getD 0 0).toNat := by omega
  have e2 : (p.getD 1 0).natAbs = (p.getD 1 0).toNat := by omega
  rw [e1, e2]; rfl
theorem fmtG_grT (n g : Nat) (hn : n < 6) (h : graphB (n : Nat) (g : Nat) = true) : fmtG (n : Nat) (g : Nat) = grT n g := by
  rw [fmtG, if_pos h, Int.toNat_natCast, Int.toNat_natCast]
  have e : (edgL (pairsL n) g (pairsL n).length).map fmtP = ((List.range (pairsL n).length).filter fun i => bt g i).map fun i => (pairT n).getD i [] := by
    unfold edgL
    rw [List.map_map]
    refine List.map_congr_left fun i hi => ?_
    exact pairT_get n hn i (List.mem_range.1 (List.mem_filter.1 hi).1)
  have hl : (edgL (pairsL n) g (pairsL n).length).length = ((edgL (pairsL n) g (pairsL n).length).map fmtP).length := (List.length_map ..).symm
  unfold fmtEs grT
  rw [hl, e, jnB_join]
  generalize (((List.range (pairsL n).length).filter fun i => bt g i).map fun i => (pairT n).getD i []) = l
  cases l with
  | nil => rfl
  | cons w r => simp
theorem graphB_lt (n g : Nat) (h1 : 1 ≤ n) (hn : n < 6) : graphB (n : Nat) (g : Nat) = true ↔ g < 2 ^ cp n := by
  unfold graphB
  rw [decide_eq_true_iff, Int.toNat_natCast]
  constructor
  · intro h; exact Int.ofNat_lt.1 h.2.2
  · intro h; exact ⟨by omega, by omega, Int.ofNat_lt.2 h⟩
/-- the graph of a text -/
def parG (n : Nat) (t : List UInt8) : Nat := orWs (pairT n) (wordsB t)
theorem parG_lt (n : Nat) (hn : n < 6) (t : List UInt8) : parG n t < 2 ^ cp n := by
  have := orWs_lt (pairT n) (wordsB t)
  rwa [(pairT_len n hn).1] at this
theorem parG_fmt (n g : Nat) (h1 : 1 ≤ n) (hn : n < 6) (hg : g < 2 ^ cp n) : parG n (fmtG (n : Nat) (g : Nat)) = g := by
  rw [fmtG_grT n g hn ((graphB_lt n g h1 hn).2 hg)]
  exact rt_all n hn g hg
def parB (n : Nat) (t : List UInt8) : Bool := decide (fmtG (n : Nat) (parG n t : Nat) = t)
/-- spec.SplitAny at blanks -/
theorem spec_SplitAny (t : List UInt8) (hl : t.length ≤ 1048576) : AC Try.prog 57 [.d true .str t, .d true .str [32]] [] [.ow 0] [.sl 9 .str (wordsB t)] := by
  refine AC_of tauOk 44 0 [4] Try.func57 rfl (by kernel_rfl) rfl rfl rfl rfl rfl ?_
  refine ⟨rfl, by decide, true, ?_⟩
  refine ⟨Nat, fun k => ⟨[(0, .d true .str t), (1, .d true .str [32]), (5, .ow 0), (6, I ((spS t k).2 : Nat)), (7, I (k : Nat))], [.sl 9 .str (spS t k).1]⟩, fun k => k ≤ t.length, fun k => t.length - k, 0, Nat.zero_le _,
    ⟨⟨rfl, rfl⟩, ⟨rfl, rfl, rfl, rfl, rfl, trivial⟩, rfl, trivial⟩, fun k hk => ?_⟩
  dsimp only at hk
  have hb := spS_b t k
  refine ⟨fun h1 => ?_, fun h1 => ?_⟩
  · have hk2 : k < t.length := by omega
    refine ⟨Nat, fun j => ⟨[(0, .d true .str t), (1, .d true .str [32]), (5, .ow 0), (6, I ((spS t k).2 : Nat)), (7, I (k : Nat)), (8, I (j : Nat))], [.sl 9 .str (spS t k).1]⟩, fun j => j ≤ 1 ∧ (j = 1 → ¬ t.getD k 0 = 32), fun j => 1 - j, 0, ⟨by decide, fun h => by cases h⟩,
      ⟨⟨rfl, rfl⟩, ⟨rfl, rfl, rfl, rfl, rfl, rfl, trivial⟩, rfl, trivial⟩, fun j ⟨hj, hjn⟩ => ?_⟩
    refine ⟨fun h2 => ?_, fun h2 => ?_⟩
    · have hj0 : j = 0 := by simp only [List.length_cons, List.length_nil] at h2; omega
      subst hj0
      refine ⟨none, by kernel_rfl, k, rfl, hk2, 0, rfl, by decide, fun h3 => ?_, fun h3 => ?_⟩
      · have h32 : t.getD k 0 = 32 := UInt8.toNat_inj.1 (by have : ((t.getD k 0).toNat : Int) = 32 := h3; show (t.getD k 0).toNat = 32; omega)
        have e : spS t (k + 1) = ((spS t k).1 ++ [(t.take k).drop (spS t k).2], k + 1) := by rw [spS, if_pos h32]
        refine ⟨(spS t k).2, rfl, k, rfl, hb.2, Nat.le_of_lt hk2, ?_⟩
        refine ⟨rfl, by decide, false, ?_⟩
        refine ⟨rfl, Nat.zero_le _, rfl, by simp only [List.length_cons, List.length_nil]; omega, rfl, ?_⟩
        refine ⟨((k + 1 : Nat) : Int), w64_eq (by omega) (by omega) (by omega), ?_⟩
        refine ⟨((k + 1 : Nat) : Int), w64_eq (by omega) (by omega) (by omega), ?_⟩
        exact ⟨k + 1, by dsimp only; omega, by dsimp only; omega, ⟨rfl, rfl⟩, ⟨rfl, rfl, rfl, retI (by rw [e]), rfl, trivial⟩, rowE (by rw [e]), trivial⟩
      · have h32 : ¬ t.getD k 0 = 32 := fun e => h3 (by rw [e]; rfl)
        exact ⟨((0 + 1 : Nat) : Int), w64_eq (by omega) (by omega) (by omega), 0 + 1, ⟨by decide, fun _ => h32⟩, by decide, ⟨rfl, rfl⟩, ⟨rfl, rfl, rfl, rfl, rfl, rfl, trivial⟩, rfl, trivial⟩
    · have hj1 : j = 1 := by simp only [List.length_cons, List.length_nil] at h2; omega
      have h32 := hjn hj1
      have e : spS t (k + 1) = spS t k := by rw [spS, if_neg h32]
      exact ⟨((k + 1 : Nat) : Int), w64_eq (by omega) (by omega) (by omega), k + 1, by dsimp only; omega, by dsimp only; omega, ⟨rfl, rfl⟩, ⟨rfl, rfl, rfl, retI (by rw [e]), rfl, trivial⟩, rowE (by rw [e]), trivial⟩
  · obtain rfl : k = t.length := by omega
    refine ⟨(spS t t.length).2, rfl, hb.2, Nat.le_refl _, ?_⟩
    refine ⟨rfl, by decide, false, ?_⟩
    refine ⟨rfl, Nat.zero_le _, rfl, by simp only [List.length_cons, List.length_nil]; omega, rfl, ?_⟩
    exact ⟨some 0, ⟨⟨rfl, rfl⟩, trivial⟩, ⟨rfl, rowsE (by rw [wordsB, List.take_length])⟩, rfl⟩
theorem spec_ParseGraph_loop (n : Nat) (h1 : 1 ≤ n) (hn : n < 6) (t : List UInt8) (hl : t.length ≤ 1048576) (r : List AV)
    (hno : parB n t = false → r = [I 0, .d true .bool false]) (hyes : parB n t = true → r = [I (parG n t : Nat), .d true .bool true]) : AC Try.prog 22 [I (n : Nat), .d true .str t] [] r [] := by
  have hpl := pairT_len n hn
  have hg0 : graphB (n : Nat) 0 = true := (graphB_lt n 0 h1 hn).2 (Nat.pos_of_ne_zero (by simp))
  have hw : (wordsB t).length ≤ 1048577 := by
    have := (spS_b t t.length).1
    simp only [wordsB, List.length_append, List.length_cons, List.length_nil]; omega
  have hp10 : ∀ x, x < 2 ^ cp n → x < 1024 := fun x hx => by have := (cp_le n hn).2.2; omega
  refine AC_of tauOk 52 0 [4, 5] Try.func22 rfl (by kernel_rfl) rfl rfl rfl rfl rfl ?_
  refine ⟨[], false, _, _, spec_GraphOk _ _, List.nodup_nil, rfl, rfl, trivial, fun h => ?_, fun h => by rw [hg0] at h; cases h⟩
  refine ⟨[], true, _, _, spec_SplitAny t hl, List.nodup_nil, rfl, rfl, trivial, ?_⟩
  refine ⟨Nat, fun k => ⟨[(0, I (n : Nat)), (1, .d true .str t), (6, I (orWs (pairT n) ((wordsB t).take k) : Nat)), (15, .d true (.sl .str) (wordsB t)), (16, I (wordsB t).length), (17, I (k : Nat))], []⟩, fun k => k ≤ (wordsB t).length, fun k => (wordsB t).length - k, 0, Nat.zero_le _,
    ⟨⟨rfl, rfl⟩, ⟨rfl, rfl, rfl, rfl, rfl, rfl, trivial⟩, trivial⟩, fun k hk => ?_⟩
  dsimp only at hk
  refine ⟨fun h2 => ?_, fun h2 => ?_⟩
  · have hk2 : k < (wordsB t).length := by omega
    have hs := orWs_s (pairT n) (wordsB t) k hk2
    refine ⟨k, rfl, hk2, ?_⟩
    by_cases h3 : n = 1
    · subst h3
      refine ⟨[], true, _, _, spec_PairsOf_no, List.nodup_nil, rfl, rfl, trivial, ?_⟩
      refine ⟨Nat, fun j => ⟨[(0, I 1), (1, .d true .str t), (6, I (orWs (pairT 1) ((wordsB t).take k) : Nat)), (15, .d true (.sl .str) (wordsB t)), (16, I (wordsB t).length), (17, I (k : Nat)), (23, I 0), (24, I (j : Nat))], []⟩, fun j => j = 0, fun j => 0, 0, rfl,
        ⟨⟨rfl, rfl⟩, ⟨rfl, rfl, rfl, rfl, rfl, rfl, rfl, rfl, trivial⟩, trivial⟩, fun j hj => ?_⟩
      subst hj
      refine ⟨fun h4 => by simp at h4, fun h4 => ?_⟩
      exact ⟨((k + 1 : Nat) : Int), w64_eq (by omega) (by omega) (by omega), k + 1, by dsimp only; omega, by dsimp only; omega, ⟨rfl, rfl⟩, ⟨rfl, rfl, retI (by rw [hs]; rfl), rfl, rfl, rfl, trivial⟩, trivial⟩
    · have hps := pairs_short n hn
      refine ⟨[], true, _, _, spec_PairsOf n (by omega) hn, List.nodup_nil, rfl, rfl, trivial, ?_⟩
      refine ⟨Nat, fun j => ⟨[(0, I (n : Nat)), (1, .d true .str t), (6, I (orW (pairT n) ((wordsB t).getD k []) (orWs (pairT n) ((wordsB t).take k)) j : Nat)), (15, .d true (.sl .str) (wordsB t)), (16, I (wordsB t).length), (17, I (k : Nat)), (8, .d true .str ((wordsB t).getD k [])), (22, .d true (.sl (.sl .int)) (pairsL n)), (23, I (pairsL n).length), (24, I (j : Nat))], []⟩, fun j => j ≤ (pairsL n).length, fun j => (pairsL n).length - j, 0, Nat.zero_le _,
        ⟨⟨rfl, rfl⟩, ⟨rfl, rfl, rfl, rfl, rfl, rfl, rfl, rfl, rfl, rfl, trivial⟩, trivial⟩, fun j hj => ?_⟩
      dsimp only at hj
      have hlt := orW_lt (pairT n) ((wordsB t).getD k []) (orWs (pairT n) ((wordsB t).take k)) (cp n) (by have := orWs_lt (pairT n) ((wordsB t).take k); rwa [hpl.1] at this) j (by omega)
      have hlt2 := hp10 _ hlt
      refine ⟨fun h4 => ?_, fun h4 => ?_⟩
      · have hj2 : j < (pairsL n).length := by omega
        have hq := hps.2 j hj2
        have f1 := fmtI_len (((pairsL n).getD j []).getD 0 0) (by omega) (by omega)
        have f2 := fmtI_len (((pairsL n).getD j []).getD 1 0) (by omega) (by omega)
        have hpt := pairT_get n hn j hj2
        have h2j : 2 ^ j < 1024 := by
          have : 2 ^ j < 2 ^ 10 := Nat.pow_lt_pow_right (by omega) (by omega)
          exact this
        refine ⟨j, rfl, hj2, ?_⟩
        refine ⟨none, by kernel_rfl, 0, rfl, by omega, _, _, spec_FormatInt _ (by omega) (by omega), rfl, 1, rfl, by omega, _, _, spec_FormatInt _ (by omega) (by omega), rfl, by omega, fun h5 => ?_, fun h5 => ?_⟩
        · have h5' : (wordsB t).getD k [] = (pairT n).getD j [] := h5.trans hpt
          refine ⟨Int.natCast_nonneg _, ((2 ^ j : Nat) : Int), shl_eq j (by omega), ((orW (pairT n) ((wordsB t).getD k []) (orWs (pairT n) ((wordsB t).take k)) j ||| 2 ^ j : Nat) : Int), or_eq _ _ hlt2 h2j, ?_⟩
          exact ⟨((j + 1 : Nat) : Int), w64_eq (by omega) (by omega) (by omega), j + 1, by dsimp only; omega, by dsimp only; omega, ⟨rfl, rfl⟩, ⟨rfl, rfl, retI (by rw [orW, if_pos h5']), rfl, rfl, rfl, rfl, rfl, rfl, rfl, trivial⟩, trivial⟩
        · have h5' : ¬ (wordsB t).getD k [] = (pairT n).getD j [] := fun e => h5 (e.trans hpt.symm)
          exact ⟨((j + 1 : Nat) : Int), w64_eq (by omega) (by omega) (by omega), j + 1, by dsimp only; omega, by dsimp only; omega, ⟨rfl, rfl⟩, ⟨rfl, rfl, retI (by rw [orW, if_neg h5']), rfl, rfl, rfl, rfl, rfl, rfl, rfl, trivial⟩, trivial⟩
      · obtain rfl : j = (pairsL n).length := by omega
        exact ⟨((k + 1 : Nat) : Int), w64_eq (by omega) (by omega) (by omega), k + 1, by dsimp only; omega, by dsimp only; omega, ⟨rfl, rfl⟩, ⟨rfl, rfl, retI (by rw [hs, hpl.1, ← hpl.2.1]), rfl, rfl, rfl, trivial⟩, trivial⟩
  · obtain rfl : k = (wordsB t).length := by omega
    have eP : orWs (pairT n) ((wordsB t).take (wordsB t).length) = parG n t := by rw [List.take_length]; rfl
    dsimp only; rw [eP]
    refine ⟨[], false, _, _, spec_FormatGraph _ _, List.nodup_nil, rfl, rfl, trivial, fun h3 => ?_, fun h3 => ?_⟩
    · obtain rfl := hno (decide_eq_false h3)
      exact ⟨none, ⟨rfl, rfl, trivial⟩, rfl, rfl⟩
    · obtain rfl := hyes (decide_eq_true (Classical.not_not.1 h3))
      exact ⟨none, ⟨rfl, rfl, trivial⟩, rfl, rfl⟩
theorem spec_ParseGraph_bad (n : Int) (t : List UInt8) (h : ¬ (1 ≤ n ∧ n ≤ 5)) : AC Try.prog 22 [I n, .d true .str t] [] [I 0, .d true .bool false] [] := by
  refine AC_of tauOk 52 0 [4, 5] Try.func22 rfl (by kernel_rfl) rfl rfl rfl rfl rfl ?_
  refine ⟨[], false, _, _, spec_GraphOk _ _, List.nodup_nil, rfl, rfl, trivial, fun h2 => ?_, fun h2 => ?_⟩
  · exact (h (of_decide_eq_true h2).1).elim
  · exact ⟨none, ⟨rfl, rfl, trivial⟩, rfl, rfl⟩
theorem impl_ParseGraph_loop (n : Nat) (h1 : 1 ≤ n) (hn : n < 6) (t : List UInt8) (r : List AV)
    (hno : parB n t = false → r = [I 0, .d true .bool false]) (hyes : parB n t = true → r = [I (parG n t : Nat), .d true .bool true]) : AC Try.prog 23 [I (n : Nat), .d true .str t] [] r [] := by
  have hc := cp_le n hn
  refine AC_of tauOk 23 0 [4, 5] Try.func23 rfl (by kernel_rfl) rfl rfl rfl rfl rfl ?_
  refine ⟨[], false, _, _, impl_isVertices _, List.nodup_nil, rfl, rfl, trivial, fun h => ?_, fun h => (of_decide_eq_false h ⟨by omega, by omega⟩).elim⟩
  refine ⟨[], false, _, _, impl_countPairs n h1 hn, List.nodup_nil, rfl, rfl, trivial, Int.natCast_nonneg _, ((2 ^ cp n : Nat) : Int), shl_eq _ (by omega), ?_⟩
  refine ⟨Nat, fun g => ⟨[(0, I (n : Nat)), (1, .d true .str t), (12, I (2 ^ cp n : Nat)), (13, I (g : Nat))], []⟩, fun g => g ≤ 2 ^ cp n ∧ ∀ i, i < g → fmtG (n : Nat) (i : Nat) ≠ t, fun g => 2 ^ cp n - g, 0, ⟨Nat.zero_le _, fun i hi => by omega⟩,
    ⟨⟨rfl, rfl⟩, ⟨rfl, rfl, rfl, rfl, trivial⟩, trivial⟩, fun g ⟨hg, hall⟩ => ?_⟩
  refine ⟨fun h2 => ?_, fun h2 => ?_⟩
  · have hg2 : g < 2 ^ cp n := Int.ofNat_lt.1 h2
    refine ⟨[], false, _, _, impl_FormatGraph _ _, List.nodup_nil, rfl, rfl, trivial, fun h3 => ?_, fun h3 => ?_⟩
    · have e : parG n t = g := by rw [← h3]; exact parG_fmt n g h1 hn hg2
      obtain rfl := hyes (decide_eq_true (by rw [e]; exact h3))
      exact ⟨none, ⟨retI (by rw [e]), rfl, trivial⟩, rfl, rfl⟩
    · refine ⟨((g + 1 : Nat) : Int), w64_eq (by omega) (by omega) (by omega), g + 1, ⟨by omega, fun i hi => ?_⟩, by dsimp only; omega, ⟨rfl, rfl⟩, ⟨rfl, rfl, rfl, rfl, trivial⟩, trivial⟩
      by_cases e : i = g
      · subst e; exact h3
      · exact hall i (by omega)
  · obtain rfl := hno (decide_eq_false (hall _ (by have := parG_lt n hn t; have : ¬ g < 2 ^ cp n := fun e => h2 (Int.ofNat_lt.2 e); omega)))
    exact ⟨none, ⟨rfl, rfl, trivial⟩, rfl, rfl⟩
theorem impl_ParseGraph_bad (n : Int) (t : List UInt8) (h : ¬ (1 ≤ n ∧ n ≤ 5)) : AC Try.prog 23 [I n, .d true .str t] [] [I 0, .d true .bool false] [] := by
  refine AC_of tauOk 23 0 [4, 5] Try.func23 rfl (by kernel_rfl) rfl rfl rfl rfl rfl ?_
  refine ⟨[], false, _, _, impl_isVertices _, List.nodup_nil, rfl, rfl, trivial, fun h2 => ?_, fun h2 => ?_⟩
  · exact (h (of_decide_eq_true h2)).elim
  · exact ⟨none, ⟨rfl, rfl, trivial⟩, rfl, rfl⟩
/-- laws.FnExactParseGraph -/
theorem laws_FnExactParseGraph (n : Int) (t : List UInt8) : AC Try.prog 5 [I n, .d true .str t] [] [.d true .bool true] [] := by
  refine AC_of tauOk 32 0 [4] Try.func5 rfl (by kernel_rfl) rfl rfl rfl rfl rfl ?_
  refine ⟨fun h1 => ?_, fun h1 => ?_⟩
  · exact ⟨none, ⟨rfl, trivial⟩, rfl, rfl⟩
  have hl : t.length ≤ 1048576 := by omega
  by_cases hv : 1 ≤ n ∧ n ≤ 5
  · obtain ⟨m, rfl⟩ : ∃ m : Nat, n = m := ⟨n.toNat, by omega⟩
    cases hB : parB m t
    · refine ⟨[], false, _, _, spec_ParseGraph_loop m (by omega) (by omega) t hl _ (fun _ => rfl) (fun e => by rw [hB] at e; cases e), List.nodup_nil, rfl, rfl, trivial, nofun, fun _ => ?_⟩
      refine ⟨[], false, _, _, impl_ParseGraph_loop m (by omega) (by omega) t _ (fun _ => rfl) (fun e => by rw [hB] at e; cases e), List.nodup_nil, rfl, rfl, trivial, nofun, fun _ => ?_⟩
      refine ⟨fun h2 => (h2 rfl).elim, fun _ => ?_⟩
      refine ⟨fun h2 => (h2 rfl).elim, fun _ => ?_⟩
      exact ⟨none, ⟨rfl, trivial⟩, rfl, rfl⟩
    · refine ⟨[], false, _, _, spec_ParseGraph_loop m (by omega) (by omega) t hl _ (fun e => by rw [hB] at e; cases e) (fun _ => rfl), List.nodup_nil, rfl, rfl, trivial, fun _ => ?_, nofun⟩
      refine ⟨[], false, _, _, impl_ParseGraph_loop m (by omega) (by omega) t _ (fun e => by rw [hB] at e; cases e) (fun _ => rfl), List.nodup_nil, rfl, rfl, trivial, fun _ => ?_, nofun⟩
      refine ⟨fun h2 => (h2 rfl).elim, fun _ => ?_⟩
      refine ⟨fun h2 => (h2 rfl).elim, fun _ => ?_⟩
      exact ⟨none, ⟨rfl, trivial⟩, rfl, rfl⟩
  · refine ⟨[], false, _, _, spec_ParseGraph_bad n t hv, List.nodup_nil, rfl, rfl, trivial, nofun, fun _ => ?_⟩
    refine ⟨[], false, _, _, impl_ParseGraph_bad n t hv, List.nodup_nil, rfl, rfl, trivial, nofun, fun _ => ?_⟩
    refine ⟨fun h2 => (h2 rfl).elim, fun _ => ?_⟩
    refine ⟨fun h2 => (h2 rfl).elim, fun _ => ?_⟩
    exact ⟨none, ⟨rfl, trivial⟩, rfl, rfl⟩
end Go.Proofs.Ytekknbcojfaohaa
