/-
  Contracts for patterns up to exchanged colors (results as data).
-/
import Derived.Test.YtbnonelkdgkpdaaPls
import Derived.Test.YtbnonelkdgkpdaaWcol
import Derived.Test.YtbnonelkdgkpdaaWlst
import Derived.Test.YtbnonelkdgkpdaaWcl
import Derived.Test.YtbnonelkdgkpdaaWexc
set_option linter.unusedVariables false
namespace Go.Proofs.Ytbnonelkdgkpdaa
open Go Go.Proofs.Ytbnonelkdgkpdaa.Ow
/-- impl.act -/
theorem impl_act (s1 s2 : Bool) (p xs : List Int) (hP : PermP p) (hl : p.length = xs.length) : AC Try.prog 88 [.d s1 (.sl .int) p, .d s2 (.sl .int) xs] [] [.ow 0] [.sl 3 .int (actL p xs)] := by
  have h10 := hP.1
  refine AC_of tauOk 27 0 [4] Try.func88 rfl (by kernel_rfl) rfl rfl rfl rfl rfl ?_
  refine ⟨_, _, rfl, rfl, Nat.le_refl _, by omega, ?_⟩
  refine ⟨Nat, fun k => ⟨[(0, .d s1 (.sl .int) p), (5, .ow 0), (11, .d s2 (.sl .int) xs), (12, I xs.length), (13, I (k : Nat))], [.sl 3 .int (actS p xs k)]⟩, fun k => k ≤ xs.length, fun k => xs.length - k, 0, Nat.zero_le _,
    ⟨⟨rfl, rfl⟩, ⟨rfl, rfl, rfl, rfl, rfl, trivial⟩, rfl, trivial⟩, fun k hk => ?_⟩
  dsimp only at hk
  refine ⟨fun h1 => ?_, fun h1 => ?_⟩
  · have hk2 : k < xs.length := by omega
    have hb := (hP.2 k (by omega)).1
    refine ⟨k, rfl, hk2, k, rfl, by omega, (p.getD k 0).toNat, (show p.getD k 0 = (((p.getD k 0).toNat : Nat) : Int) by omega), (show (p.getD k 0).toNat < (actS p xs k).length by rw [actS_len]; omega), ?_⟩
    exact ⟨((k + 1 : Nat) : Int), w64_eq (by omega) (by omega) (by omega), k + 1, by dsimp only; omega, by dsimp only; omega, ⟨rfl, rfl⟩, ⟨rfl, rfl, rfl, rfl, rfl, trivial⟩, rowE rfl, trivial⟩
  · obtain rfl : k = xs.length := by omega
    exact ⟨some 0, ⟨⟨rfl, rfl⟩, trivial⟩, ⟨rfl, rfl⟩, rfl⟩
theorem retDc {b c : List Int} (h : b = c) : (AV.d true (.sl .int) b) = .d true (.sl .int) c := by rw [h]
theorem cexK_len {g : List (List Int)} {xs : List Int} (hg : ∀ i, i < g.length → PermP (g.getD i []) ∧ (g.getD i []).length = xs.length) (hc : ColP xs) : ∀ k, k ≤ g.length → (bstF (fun p => firstL (actL p xs)) (firstL xs) g k).length = xs.length := fun k hk => by
  rcases bst_mem (fun p => firstL (actL p xs)) (firstL xs) g k with h | ⟨i, hi, h⟩
  · rw [h, firstL_len _ hc]
  · obtain ⟨h1, h2⟩ := hg i (by omega)
    rw [h, firstL_len _ (act_col h1 h2 hc), actL_len]
/-- impl.canonExchange: the result as data -/
theorem impl_canonExchange_d (sh s2 : Bool) (g : List (List Int)) (xs : List Int) (hg : ∀ i, i < g.length → PermP (g.getD i []) ∧ (g.getD i []).length = xs.length) (hgl : g.length ≤ 1048576) (hc : ColP xs) :
    AC Try.prog 47 [.d sh (.sl (.sl .int)) g, .d s2 (.sl .int) xs] [] [.d true (.sl .int) (cexL g xs)] [] := by
  have hcl := hc.2
  have hbl := cexK_len hg hc
  refine AC_of tauOk 28 0 [4] Try.func47 rfl (by kernel_rfl) rfl rfl rfl rfl rfl ?_
  refine ⟨[], true, _, _, impl_leastExchange s2 xs hc, List.nodup_nil, rfl, rfl, trivial, ?_⟩
  refine ⟨Nat, fun k => ⟨[(1, .d s2 (.sl .int) xs), (5, .d true (.sl .int) (bstF (fun p => firstL (actL p xs)) (firstL xs) g k)), (11, .d sh (.sl (.sl .int)) g), (12, I g.length), (13, I (k : Nat))], []⟩, fun k => k ≤ g.length, fun k => g.length - k, 0, Nat.zero_le _,
    ⟨⟨rfl, rfl⟩, ⟨rfl, rfl, rfl, rfl, rfl, trivial⟩, trivial⟩, fun k hk => ?_⟩
  dsimp only at hk
  refine ⟨fun h1 => ?_, fun h1 => ?_⟩
  · have hk2 : k < g.length := by omega
    obtain ⟨hP, hl⟩ := hg k hk2
    have hbk := hbl k hk
    have hx1 := firstL_len _ (act_col hP hl hc)
    rw [actL_len] at hx1
    refine ⟨k, rfl, hk2, [], true, _, _, impl_act sh s2 (g.getD k []) xs hP hl, List.nodup_nil, rfl, rfl, trivial, [], true, _, _, impl_leastExchange true (actL (g.getD k []) xs) (act_col hP hl hc), List.nodup_nil, rfl, rfl, trivial, ?_⟩
    refine ⟨[], false, _, _, slices_Compare_int true true (firstL (actL (g.getD k []) xs)) (bstF (fun p => firstL (actL p xs)) (firstL xs) g k) (by omega) (by omega), List.nodup_nil, rfl, rfl, trivial, fun h2 => ?_, fun h2 => ?_⟩
    · have e : bstF (fun p => firstL (actL p xs)) (firstL xs) g (k + 1) = firstL (actL (g.getD k []) xs) := by rw [bstF, if_pos h2]
      exact ⟨((k + 1 : Nat) : Int), w64_eq (by omega) (by omega) (by omega), k + 1, by dsimp only; omega, by dsimp only; omega, ⟨rfl, rfl⟩, ⟨rfl, retDc e.symm, rfl, rfl, rfl, trivial⟩, trivial⟩
    · have e : bstF (fun p => firstL (actL p xs)) (firstL xs) g (k + 1) = bstF (fun p => firstL (actL p xs)) (firstL xs) g k := by rw [bstF, if_neg h2]
      exact ⟨((k + 1 : Nat) : Int), w64_eq (by omega) (by omega) (by omega), k + 1, by dsimp only; omega, by dsimp only; omega, ⟨rfl, rfl⟩, ⟨rfl, retDc e.symm, rfl, rfl, rfl, trivial⟩, trivial⟩
  · obtain rfl : k = g.length := by omega
    exact ⟨none, ⟨rfl, trivial⟩, rfl, rfl⟩

/-- there are at most 1024 words -/
def smallB (n : Nat) (k : Int) : Bool := (decide (1 ≤ k) && decide (k ≤ 4)) && decide (k.toNat ^ n ≤ 1024)
/-- impl.isSmall -/
theorem impl_isSmall (n : Nat) (k : Int) (hn : n ≤ 10) : AC Try.prog 44 [I (n : Nat), I k] [] [.d true .bool (smallB n k)] [] := by
  refine AC_of tauOk 17 0 [4] Try.func44 rfl (by kernel_rfl) rfl rfl rfl rfl rfl ?_
  refine ⟨fun h1 => ?_, fun h1 => ?_⟩
  · refine ⟨fun h2 => ?_, fun h2 => ?_⟩
    · obtain ⟨K, rfl⟩ : ∃ K : Nat, k = (K : Int) := ⟨k.toNat, by omega⟩
      refine ⟨[], false, _, _, impl_power K n (by omega) hn, List.nodup_nil, rfl, rfl, trivial, fun h3 => ?_, fun h3 => ?_⟩
      · exact ⟨none, ⟨retB (by rw [smallB, decide_eq_true h1, decide_eq_true h2, Int.toNat_natCast, decide_eq_true (by omega)]; rfl), trivial⟩, rfl, rfl⟩
      · exact ⟨none, ⟨retB (by rw [smallB, decide_eq_true h1, decide_eq_true h2, Int.toNat_natCast, decide_eq_false (by omega)]; rfl), trivial⟩, rfl, rfl⟩
    · exact ⟨none, ⟨retB (by rw [smallB, decide_eq_true h1, decide_eq_false h2]; rfl), trivial⟩, rfl, rfl⟩
  · exact ⟨none, ⟨retB (by rw [smallB, decide_eq_false h1]; rfl), trivial⟩, rfl, rfl⟩
/-- slices.Clone of no integers -/
theorem slices_Clone_no (sh : Bool) : AC Try.prog 87 [.d sh (.sl .int) []] [] [.x .emp] [] := by
  cases sh <;> (
  refine AC_of tauOk 8 0 [2] Try.func87 rfl (by kernel_rfl) rfl rfl rfl rfl rfl ?_
  refine ⟨fun h => ?_, fun _ => ?_⟩
  · exact ⟨none, ⟨trivial, trivial⟩, rfl, rfl⟩
  · refine ⟨rfl, by decide, .e, rfl, ?_⟩
    exact ⟨none, ⟨rfl, trivial⟩, rfl, rfl⟩)
/-- all words of a list with one more letter -/
def extW (k : Nat) (l : List (List Int)) : List (List Int) := l.flatMap fun w => (List.range k).map fun (x : Nat) => w ++ [(x : Int)]
theorem extW_len (k : Nat) (l : List (List Int)) : (extW k l).length = l.length * k := by
  induction l with
  | nil => simp [extW]
  | cons w l ih => rw [extW, List.flatMap_cons, List.length_append, List.length_map, List.length_range, ← extW, ih, List.length_cons, Nat.succ_mul]; omega
theorem extW_s (k : Nat) (l : List (List Int)) (i : Nat) (hi : i < l.length) : extW k (l.take (i + 1)) = extW k (l.take i) ++ (List.range k).map fun (x : Nat) => l.getD i [] ++ [(x : Int)] := by
  rw [L_succ l i [] hi, extW, List.flatMap_append]; simp [extW]
theorem rng_s (w : List Int) (x : Nat) : ((List.range (x + 1)).map fun (x : Nat) => w ++ [(x : Int)]) = ((List.range x).map fun (x : Nat) => w ++ [(x : Int)]) ++ [w ++ [(x : Int)]] := by
  rw [List.range_succ, List.map_append]; rfl
/-- impl.wordsOf -/
theorem impl_wordsOf (n k : Nat) (hn : n ≤ 10) (hk : k ≤ 4) : AC Try.prog 45 [I (n : Nat), I (k : Nat)] [] [.d true (.sl (.sl .int)) (wordsL k n)] [] := by
  have hp : ∀ j, j ≤ n → k ^ j ≤ 1048576 := fun j hj => pow_le hk (show j ≤ 10 by omega) (Nat.le_refl 10)
  refine AC_of tauOk 39 0 [4] Try.func45 rfl (by kernel_rfl) rfl rfl rfl rfl rfl ?_
  refine ⟨rfl, by decide, false, rfl, by decide, false, ?_⟩
  refine ⟨Nat, fun j => ⟨[(1, I (k : Nat)), (5, .d true (.sl (.sl .int)) (wordsL k j)), (12, I (n : Nat)), (13, I (j : Nat))], []⟩, fun j => j ≤ n, fun j => n - j, 0, Nat.zero_le _,
    ⟨⟨rfl, rfl⟩, ⟨rfl, rfl, rfl, rfl, trivial⟩, trivial⟩, fun j hj => ?_⟩
  dsimp only at hj
  have hwl := wordsL_len k j
  have hpj := hp j hj
  have hwg : ∀ i, i < (wordsL k j).length → ((wordsL k j).getD i []).length = j := fun i hi => by
    rw [hwl] at hi; rw [wordsL_get k j i hi, wrdN_len]
  have hws : wordsL k (j + 1) = extW k (wordsL k j) := rfl
  refine ⟨fun h1 => ?_, fun h1 => ?_⟩
  · refine ⟨rfl, by decide, true, ?_⟩
    refine ⟨Nat, fun i => ⟨[(1, I (k : Nat)), (6, .ow 0), (12, I (n : Nat)), (13, I (j : Nat)), (16, .d true (.sl (.sl .int)) (wordsL k j)), (17, I (wordsL k j).length), (18, I (i : Nat))], [.sl 25 (.sl .int) (extW k ((wordsL k j).take i))]⟩, fun i => i ≤ (wordsL k j).length, fun i => (wordsL k j).length - i, 0, Nat.zero_le _,
      ⟨⟨rfl, rfl⟩, ⟨rfl, rfl, rfl, rfl, rfl, rfl, rfl, trivial⟩, rfl, trivial⟩, fun i hi => ?_⟩
    dsimp only at hi
    have hel := extW_len k ((wordsL k j).take i)
    have hik : ((wordsL k j).take i).length * k ≤ 1048576 * 4 := Nat.mul_le_mul (by rw [List.length_take]; omega) hk
    refine ⟨fun h2 => ?_, fun h2 => ?_⟩
    · have hi2 : i < (wordsL k j).length := by omega
      refine ⟨i, rfl, hi2, ?_⟩
      have hwi := hwg i hi2
      have hes := extW_s k (wordsL k j) i hi2
      refine ⟨Nat, fun x => ⟨[(1, I (k : Nat)), (6, .ow 0), (8, .d true (.sl .int) ((wordsL k j).getD i [])), (12, I (n : Nat)), (13, I (j : Nat)), (16, .d true (.sl (.sl .int)) (wordsL k j)), (17, I (wordsL k j).length), (18, I (i : Nat)), (22, I (k : Nat)), (23, I (x : Nat))], [.sl 25 (.sl .int) (extW k ((wordsL k j).take i) ++ (List.range x).map fun (x : Nat) => ((wordsL k j).getD i []) ++ [(x : Int)])]⟩, fun x => x ≤ k, fun x => k - x, 0, Nat.zero_le _,
        ⟨⟨rfl, rfl⟩, ⟨rfl, rfl, rfl, rfl, rfl, rfl, rfl, rfl, rfl, rfl, trivial⟩, rowE (by simp), trivial⟩, fun x hx => ?_⟩
      dsimp only at hx
      refine ⟨fun h3 => ?_, fun h3 => ?_⟩
      · by_cases h0 : (wordsL k j).getD i [] = []
        · have hcn := slices_Clone_no true
          rw [← h0] at hcn
          refine ⟨[], false, _, _, hcn, List.nodup_nil, rfl, rfl, trivial, ?_⟩
          refine ⟨rfl, by decide, false, ?_⟩
          refine ⟨(by decide : 1 ≤ 1099511627776), ?_⟩
          refine ⟨rfl, rfl, by decide, false, ?_⟩
          refine ⟨rfl, Nat.zero_le _, rfl, ?_, rfl, ?_⟩
          · simp only [List.length_append, List.length_map, List.length_range, List.length_cons, List.length_nil]; omega
          · exact ⟨((x + 1 : Nat) : Int), w64_eq (by omega) (by omega) (by omega), x + 1, by dsimp only; omega, by dsimp only; omega, ⟨rfl, rfl⟩, ⟨rfl, rfl, rfl, rfl, rfl, rfl, rfl, rfl, rfl, rfl, trivial⟩, rowE (by rw [rng_s, List.append_assoc, h0]; rfl), trivial⟩
        · refine ⟨[], false, _, _, slices_Clone_int true ((wordsL k j).getD i []) (by omega) h0, List.nodup_nil, rfl, rfl, trivial, ?_⟩
          refine ⟨rfl, by decide, false, ?_⟩
          refine ⟨rfl, Nat.zero_le _, rfl, ?_, rfl, ?_⟩
          · simp only [List.length_cons, List.length_nil]; omega
          refine ⟨rfl, rfl, by decide, false, ?_⟩
          refine ⟨rfl, Nat.zero_le _, rfl, ?_, rfl, ?_⟩
          · simp only [List.length_append, List.length_map, List.length_range, List.length_cons, List.length_nil]; omega
          · exact ⟨((x + 1 : Nat) : Int), w64_eq (by omega) (by omega) (by omega), x + 1, by dsimp only; omega, by dsimp only; omega, ⟨rfl, rfl⟩, ⟨rfl, rfl, rfl, rfl, rfl, rfl, rfl, rfl, rfl, rfl, trivial⟩, rowE (by rw [rng_s, List.append_assoc]), trivial⟩
      · obtain rfl : x = k := by omega
        exact ⟨((i + 1 : Nat) : Int), w64_eq (by omega) (by omega) (by omega), i + 1, by dsimp only; omega, by dsimp only; omega, ⟨rfl, rfl⟩, ⟨rfl, rfl, rfl, rfl, rfl, rfl, rfl, trivial⟩, rowE hes.symm, trivial⟩
    · obtain rfl : i = (wordsL k j).length := by omega
      exact ⟨((j + 1 : Nat) : Int), w64_eq (by omega) (by omega) (by omega), j + 1, by dsimp only; omega, by dsimp only; omega, ⟨rfl, rfl⟩, ⟨rfl, ⟨rfl, rfl, by rw [hws, List.take_length]⟩, rfl, rfl, trivial⟩, trivial⟩
  · obtain rfl : j = n := by omega
    exact ⟨none, ⟨rfl, trivial⟩, rfl, rfl⟩
/-- the patterns among the first i words -/
def expS (g : List (List Int)) (k n i : Nat) : List (List Int) := ((wordsL k n).take i).filter fun w => decide (cexL g w = w)
theorem expS_y (g : List (List Int)) (k n i : Nat) (hi : i < (wordsL k n).length) (h : cexL g ((wordsL k n).getD i []) = (wordsL k n).getD i []) : expS g k n (i + 1) = expS g k n i ++ [(wordsL k n).getD i []] := by
  rw [expS, L_succ _ i [] hi, List.filter_append, List.filter_cons_of_pos (by rw [decide_eq_true_eq]; exact h)]; rfl
theorem expS_n (g : List (List Int)) (k n i : Nat) (hi : i < (wordsL k n).length) (h : ¬ cexL g ((wordsL k n).getD i []) = (wordsL k n).getD i []) : expS g k n (i + 1) = expS g k n i := by
  rw [expS, L_succ _ i [] hi, List.filter_append, List.filter_cons_of_neg (by rw [decide_eq_true_eq]; exact h)]; simp [expS]
theorem expS_le (g : List (List Int)) (k n i : Nat) : (expS g k n i).length ≤ i := Nat.le_trans (List.length_filter_le _ _) (by rw [List.length_take]; omega)
theorem wrd_col {k n i : Nat} (h1 : 1 ≤ n) (h2 : n ≤ 10) (h4 : k ≤ 4) (hi : i < (wordsL k n).length) : ColP ((wordsL k n).getD i []) := by
  rw [getD_get _ _ _ hi]
  exact col_of h1 h2 h4 (List.getElem_mem hi)
/-- impl.ExchangePatterns of a group and few colors -/
theorem impl_ExchangePatterns_d (sh : Bool) (g : List (List Int)) (K : Nat) (hl : g.length ≤ 1048576) (hx : ∀ i, i < g.length → (g.getD i []).length ≤ 1048576) (hB : gokB g = true) (hS : smallB (g.getD 0 []).length (K : Nat) = true) :
    AC Try.prog 10 [.d sh (.sl (.sl .int)) g, I (K : Nat)] [] [.ow 0, .d true .bool true] [.sl 25 (.sl .int) (expL g K (g.getD 0 []).length)] := by
  have hG := (gokB_iff g).1 hB
  have hg0 : 0 < g.length := by have := hG.l1; omega
  have hp0 := (gok1_p (hG.o1 0 hg0)).1.1
  have hgp : ∀ i, i < g.length → PermP (g.getD i []) ∧ (g.getD i []).length = (g.getD 0 []).length := fun i hi => ⟨(gok1_p (hG.o1 i hi)).1, (gok1_p (hG.o1 i hi)).2.1⟩
  have hK : K ≤ 4 := by
    unfold smallB at hS
    simp only [Bool.and_eq_true, decide_eq_true_eq] at hS
    omega
  have hSm := impl_isSmall (g.getD 0 []).length (K : Nat) hp0.2
  rw [hS] at hSm
  have hwl := wordsL_len K (g.getD 0 []).length
  have hpw : K ^ (g.getD 0 []).length ≤ 1048576 := pow_le hK hp0.2 (Nat.le_refl 10)
  have hwc : ∀ i, i < (wordsL K (g.getD 0 []).length).length → ColP ((wordsL K (g.getD 0 []).length).getD i []) ∧ ((wordsL K (g.getD 0 []).length).getD i []).length = (g.getD 0 []).length := fun i hi => by
    refine ⟨wrd_col hp0.1 hp0.2 hK hi, ?_⟩
    rw [hwl] at hi
    rw [wordsL_get _ _ _ hi, wrdN_len]
  have hye := expS_y g K (g.getD 0 []).length
  have hno := expS_n g K (g.getD 0 []).length
  have hle := expS_le g K (g.getD 0 []).length
  have h00 : expS g K (g.getD 0 []).length 0 = [] := by simp [expS]
  have hend : expS g K (g.getD 0 []).length (wordsL K (g.getD 0 []).length).length = expL g K (g.getD 0 []).length := by rw [expS, List.take_length]; rfl
  refine AC_of tauOk 44 0 [4, 5] Try.func10 rfl (by kernel_rfl) rfl rfl rfl rfl rfl ?_
  refine ⟨[], false, _, _, impl_GroupOk sh g hl hx, List.nodup_nil, rfl, rfl, trivial, fun _ => ?_, fun h => by rw [hB] at h; cases h⟩
  refine ⟨0, rfl, hg0, [], false, _, _, hSm, List.nodup_nil, rfl, rfl, trivial, fun _ => ?_, nofun⟩
  refine ⟨rfl, by decide, true, ?_⟩
  refine ⟨0, rfl, hg0, [], false, _, _, impl_wordsOf (g.getD 0 []).length K hp0.2 hK, List.nodup_nil, rfl, rfl, trivial, ?_⟩
  generalize wordsL K (g.getD 0 []).length = W at *
  refine ⟨Nat, fun i => ⟨[(0, .d sh (.sl (.sl .int)) g), (6, .ow 0), (27, .d true (.sl (.sl .int)) W), (28, I W.length), (29, I (i : Nat))], [.sl 25 (.sl .int) (expS g K (g.getD 0 []).length i)]⟩, fun i => i ≤ W.length, fun i => W.length - i, 0, Nat.zero_le _,
    ⟨⟨rfl, rfl⟩, ⟨rfl, rfl, rfl, rfl, rfl, trivial⟩, rowE h00.symm, trivial⟩, fun i hi => ?_⟩
  dsimp only at hi
  have hlei := hle i
  refine ⟨fun h2 => ?_, fun h2 => ?_⟩
  · have hi2 : i < W.length := by omega
    obtain ⟨hc, hcl⟩ := hwc i hi2
    have hy := hye i hi2
    have hn := hno i hi2
    have hl10 := hc.2
    refine ⟨i, rfl, hi2, ?_⟩
    have hgv : ∀ a, a < g.length → PermP (g.getD a []) ∧ (g.getD a []).length = (W.getD i []).length := fun a ha => by rw [hcl]; exact hgp a ha
    have hce := cexK_len hgv hc g.length (Nat.le_refl _)
    have hce : (cexL g (W.getD i [])).length = (W.getD i []).length := hce
    refine ⟨[], false, _, _, impl_canonExchange_d sh true g (W.getD i []) hgv hl hc, List.nodup_nil, rfl, rfl, trivial, ?_⟩
    refine ⟨[], false, _, _, slices_Equal_int true true (cexL g (W.getD i [])) (W.getD i []) (by omega) (by omega), List.nodup_nil, rfl, rfl, trivial, fun h3 => ?_, fun h3 => ?_⟩
    · have h3 := of_decide_eq_true h3
      refine ⟨rfl, by decide, false, ?_⟩
      refine ⟨rfl, Nat.zero_le _, rfl, ?_, rfl, ?_⟩
      · simp only [List.length_cons, List.length_nil]; omega
      · exact ⟨((i + 1 : Nat) : Int), w64_eq (by omega) (by omega) (by omega), i + 1, by dsimp only; omega, by dsimp only; omega, ⟨rfl, rfl⟩, ⟨rfl, rfl, rfl, rfl, rfl, trivial⟩, rowE (hy h3).symm, trivial⟩
    · have h3 := of_decide_eq_false h3
      exact ⟨((i + 1 : Nat) : Int), w64_eq (by omega) (by omega) (by omega), i + 1, by dsimp only; omega, by dsimp only; omega, ⟨rfl, rfl⟩, ⟨rfl, rfl, rfl, rfl, rfl, trivial⟩, rowE (hn h3).symm, trivial⟩
  · obtain rfl : i = W.length := by omega
    exact ⟨some 0, ⟨⟨rfl, rfl⟩, rfl, trivial⟩, ⟨rfl, rowsE hend⟩, rfl⟩
/-- impl.canon -/
theorem impl_canon (sh s2 : Bool) (g : List (List Int)) (xs : List Int) (hg : ∀ i, i < g.length → PermP (g.getD i []) ∧ (g.getD i []).length = xs.length) (hgl : g.length ≤ 1048576) (hc : ColP xs) :
    AC Try.prog 94 [.d sh (.sl (.sl .int)) g, .d s2 (.sl .int) xs] [] [.ow 0] [.sl 3 .int (canL g xs)] := by
  have hcl := hc.2
  have hbl : ∀ k, k ≤ g.length → (bstF (fun p => actL p xs) xs g k).length = xs.length := fun k hk => by
    rcases bst_mem (fun p => actL p xs) xs g k with h | ⟨i, hi, h⟩
    · rw [h]
    · rw [h, actL_len]
  refine AC_of tauOk 27 0 [4] Try.func94 rfl (by kernel_rfl) rfl rfl rfl rfl rfl ?_
  refine ⟨Bool × Nat, fun z => ⟨[(1, .d s2 (.sl .int) xs), (5, .d z.1 (.sl .int) (bstF (fun p => actL p xs) xs g z.2)), (10, .d sh (.sl (.sl .int)) g), (11, I g.length), (12, I (z.2 : Nat))], []⟩, fun z => z.2 ≤ g.length, fun z => g.length - z.2, (s2, 0), Nat.zero_le _,
    ⟨⟨rfl, rfl⟩, ⟨rfl, rfl, rfl, rfl, rfl, trivial⟩, trivial⟩, fun z hk => ?_⟩
  obtain ⟨b, k⟩ := z
  dsimp only at hk ⊢
  refine ⟨fun h1 => ?_, fun h1 => ?_⟩
  · have hk2 : k < g.length := by omega
    obtain ⟨hP, hl⟩ := hg k hk2
    have hbk := hbl k hk
    have hx1 := actL_len (g.getD k []) xs
    refine ⟨k, rfl, hk2, [], true, _, _, impl_act sh s2 (g.getD k []) xs hP hl, List.nodup_nil, rfl, rfl, trivial, ?_⟩
    refine ⟨[], false, _, _, slices_Compare_int true b (actL (g.getD k []) xs) (bstF (fun p => actL p xs) xs g k) (by omega) (by omega), List.nodup_nil, rfl, rfl, trivial, fun h2 => ?_, fun h2 => ?_⟩
    · have e : bstF (fun p => actL p xs) xs g (k + 1) = actL (g.getD k []) xs := by rw [bstF, if_pos h2]
      exact ⟨((k + 1 : Nat) : Int), w64_eq (by omega) (by omega) (by omega), (true, k + 1), by dsimp only; omega, by dsimp only; omega, ⟨rfl, rfl⟩, ⟨rfl, retDc e.symm, rfl, rfl, rfl, trivial⟩, trivial⟩
    · have e : bstF (fun p => actL p xs) xs g (k + 1) = bstF (fun p => actL p xs) xs g k := by rw [bstF, if_neg h2]
      exact ⟨((k + 1 : Nat) : Int), w64_eq (by omega) (by omega) (by omega), (b, k + 1), by dsimp only; omega, by dsimp only; omega, ⟨rfl, rfl⟩, ⟨rfl, by rw [e]; rfl, rfl, rfl, rfl, trivial⟩, trivial⟩
  · obtain rfl : k = g.length := by omega
    have hbk := hbl g.length hk
    refine ⟨[], false, _, _, slices_Clone_int b (bstF (fun p => actL p xs) xs g g.length) (by omega) (fun e => by rw [e] at hbk; simp at hbk; omega), List.nodup_nil, rfl, rfl, trivial, ?_⟩
    exact ⟨some 0, ⟨⟨rfl, rfl⟩, trivial⟩, ⟨rfl, rfl⟩, rfl⟩
/-- a group and a coloring fit -/
def fitB (g : List (List Int)) (xs : List Int) : Bool := gokB g && (colB xs && decide ((g.getD 0 []).length = xs.length))
structure FitP (g : List (List Int)) (xs : List Int) : Prop where
  gs : ∀ i, i < g.length → PermP (g.getD i []) ∧ (g.getD i []).length = xs.length
  x : ColP xs
  b : gokB g = true
  n : (g.getD 0 []).length = xs.length
theorem fit_of {g : List (List Int)} {xs : List Int} (h : fitB g xs = true) : FitP g xs := by
  unfold fitB at h
  simp only [Bool.and_eq_true, decide_eq_true_eq] at h
  obtain ⟨h1, h2, h3⟩ := h
  have hG := (gokB_iff g).1 h1
  exact ⟨fun i hi => ⟨(gok1_p (hG.o1 i hi)).1, by rw [(gok1_p (hG.o1 i hi)).2.1, h3]⟩, (colB_iff xs).1 h2, h1, h3⟩
/-- impl.CanonOf -/
theorem impl_CanonOf_both (s1 s2 : Bool) (g : List (List Int)) (xs : List Int) (hl : g.length ≤ 1048576) (hx : ∀ i, i < g.length → (g.getD i []).length ≤ 1048576) (hl2 : xs.length ≤ 1048576) (r : List AV) (rr : List Row)
    (hno : fitB g xs = false → r = [.nil, .d true .bool false] ∧ rr = []) (hyes : fitB g xs = true → r = [.ow 0, .d true .bool true] ∧ rr = [.sl 3 .int (canL g xs)]) :
    AC Try.prog 61 [.d s1 (.sl (.sl .int)) g, .d s2 (.sl .int) xs] [] r rr := by
  refine AC_of tauOk 26 0 [4, 5] Try.func61 rfl (by kernel_rfl) rfl rfl rfl rfl rfl ?_
  refine ⟨[], false, _, _, impl_GroupOk s1 g hl hx, List.nodup_nil, rfl, rfl, trivial, fun h1 => ?_, fun h1 => ?_⟩
  · have hg0 : 0 < g.length := by have := ((gokB_iff g).1 h1).l1; omega
    refine ⟨[], false, _, _, impl_ColoringOk s2 xs hl2, List.nodup_nil, rfl, rfl, trivial, fun h2 => ?_, fun h2 => ?_⟩
    · refine ⟨0, rfl, hg0, fun h3 => ?_, fun h3 => ?_⟩
      · obtain ⟨rfl, rfl⟩ := hno (by rw [fitB, h1, h2, decide_eq_false (by omega)]; rfl)
        exact ⟨none, ⟨rfl, rfl, trivial⟩, rfl, rfl⟩
      · have he : fitB g xs = true := by rw [fitB, h1, h2, decide_eq_true (by omega)]; rfl
        have hF := fit_of he
        obtain ⟨rfl, rfl⟩ := hyes he
        refine ⟨[], false, _, _, impl_canon s1 s2 g xs hF.gs hl hF.x, List.nodup_nil, rfl, rfl, trivial, ?_⟩
        exact ⟨some 0, ⟨⟨rfl, rfl⟩, rfl, trivial⟩, ⟨rfl, rfl⟩, rfl⟩
    · obtain ⟨rfl, rfl⟩ := hno (by rw [fitB, h2]; simp)
      exact ⟨none, ⟨rfl, rfl, trivial⟩, rfl, rfl⟩
  · obtain ⟨rfl, rfl⟩ := hno (by rw [fitB, h1]; simp)
    exact ⟨none, ⟨rfl, rfl, trivial⟩, rfl, rfl⟩
theorem impl_CanonOf (s1 s2 : Bool) (g : List (List Int)) (xs : List Int) (hl : g.length ≤ 1048576) (hx : ∀ i, i < g.length → (g.getD i []).length ≤ 1048576) (hl2 : xs.length ≤ 1048576) (hc : fitB g xs = true) :
    AC Try.prog 61 [.d s1 (.sl (.sl .int)) g, .d s2 (.sl .int) xs] [] [.ow 0, .d true .bool true] [.sl 3 .int (canL g xs)] :=
  impl_CanonOf_both s1 s2 g xs hl hx hl2 _ _ (fun h => by rw [hc] at h; cases h) (fun _ => ⟨rfl, rfl⟩)
theorem impl_CanonOf_no (s1 s2 : Bool) (g : List (List Int)) (xs : List Int) (hl : g.length ≤ 1048576) (hx : ∀ i, i < g.length → (g.getD i []).length ≤ 1048576) (hl2 : xs.length ≤ 1048576) (hc : fitB g xs = false) :
    AC Try.prog 61 [.d s1 (.sl (.sl .int)) g, .d s2 (.sl .int) xs] [] [.nil, .d true .bool false] [] :=
  impl_CanonOf_both s1 s2 g xs hl hx hl2 _ _ (fun _ => ⟨rfl, rfl⟩) (fun h => by rw [hc] at h; cases h)
/-- what CanonExchange takes -/
def cxB (g : List (List Int)) (k : Int) (xs : List Int) : Bool := fitB g xs && ((decide (1 ≤ k) && decide (k ≤ 4)) && belowB xs k)
/-- impl.CanonExchange -/
theorem impl_CanonExchange_both (s1 s2 : Bool) (g : List (List Int)) (k : Int) (xs : List Int) (hl : g.length ≤ 1048576) (hx : ∀ i, i < g.length → (g.getD i []).length ≤ 1048576) (hl2 : xs.length ≤ 1048576) (r : List AV)
    (hno : cxB g k xs = false → r = [.nil, .d true .bool false]) (hyes : cxB g k xs = true → r = [.d true (.sl .int) (cexL g xs), .d true .bool true]) :
    AC Try.prog 16 [.d s1 (.sl (.sl .int)) g, I k, .d s2 (.sl .int) xs] [] r [] := by
  refine AC_of tauOk 32 0 [6, 7] Try.func16 rfl (by kernel_rfl) rfl rfl rfl rfl rfl ?_
  cases hF : fitB g xs
  · refine ⟨[], true, _, _, impl_CanonOf_no s1 s2 g xs hl hx hl2 hF, List.nodup_nil, rfl, rfl, trivial, nofun, fun _ => ?_⟩
    obtain rfl := hno (by rw [cxB, hF]; rfl)
    exact ⟨none, ⟨rfl, rfl, trivial⟩, rfl, rfl⟩
  · refine ⟨[], true, _, _, impl_CanonOf s1 s2 g xs hl hx hl2 hF, List.nodup_nil, rfl, rfl, trivial, fun _ => ?_, nofun⟩
    have hP := fit_of hF
    refine ⟨[], false, _, _, impl_isColors k, List.nodup_nil, rfl, rfl, trivial, fun h1 => ?_, fun h1 => ?_⟩
    · refine ⟨[], false, _, _, impl_below s2 xs k hl2, List.nodup_nil, rfl, rfl, trivial, fun h2 => ?_, fun h2 => ?_⟩
      · obtain rfl := hyes (by rw [cxB, hF, h1, h2]; rfl)
        refine ⟨[], false, _, _, impl_canonExchange_d s1 s2 g xs hP.gs hl hP.x, List.nodup_nil, rfl, rfl, trivial, ?_⟩
        exact ⟨none, ⟨rfl, rfl, trivial⟩, rfl, rfl⟩
      · obtain rfl := hno (by rw [cxB, h2]; simp)
        exact ⟨none, ⟨rfl, rfl, trivial⟩, rfl, rfl⟩
    · obtain rfl := hno (by rw [cxB, h1]; simp)
      exact ⟨none, ⟨rfl, rfl, trivial⟩, rfl, rfl⟩
theorem impl_CanonExchange_d (s1 s2 : Bool) (g : List (List Int)) (k : Int) (xs : List Int) (hl : g.length ≤ 1048576) (hx : ∀ i, i < g.length → (g.getD i []).length ≤ 1048576) (hl2 : xs.length ≤ 1048576) (hc : cxB g k xs = true) :
    AC Try.prog 16 [.d s1 (.sl (.sl .int)) g, I k, .d s2 (.sl .int) xs] [] [.d true (.sl .int) (cexL g xs), .d true .bool true] [] :=
  impl_CanonExchange_both s1 s2 g k xs hl hx hl2 _ (fun h => by rw [hc] at h; cases h) (fun _ => rfl)
end Go.Proofs.Ytbnonelkdgkpdaa
