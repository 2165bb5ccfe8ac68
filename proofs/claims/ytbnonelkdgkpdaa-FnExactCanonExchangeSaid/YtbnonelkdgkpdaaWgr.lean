/-
  Contracts of the functions on graphs as numbers: places in lists, pairs, edges, degrees.
-/
import Derived.Test.YtbnonelkdgkpdaaPls
import Derived.Test.YtbnonelkdgkpdaaWsf
set_option linter.unusedVariables false
namespace Go.Proofs.Ytbnonelkdgkpdaa
open Go Go.Proofs.Ytbnonelkdgkpdaa.Ow
theorem u64w (x : Int) (h1 : 0 ≤ x) (h2 : x ≤ 9223372036854775807) : x = IntKind.u64.wrap x := by
  simp only [IntKind.wrap, IntKind.bits, IntKind.signed]
  simp
  omega
/-- slices.BinarySearchFunc of lists, by slices.Compare -/
theorem slices_BSF (sh s2 : Bool) (xss : List (List Int)) (p : List Int) (hl : xss.length ≤ 1048576) (hx : ∀ i, i < xss.length → (xss.getD i []).length ≤ 1048576) (hp : p.length ≤ 1048576) :
    AC Try.prog 96 [.d sh (.sl (.sl .int)) xss, .d s2 (.sl .int) p, .fn 85 []] [] [I (bsN xss p : Nat), .d true .bool (decide (bsN xss p < xss.length ∧ xss.getD (bsN xss p) [] = p))] [] := by
  refine AC_of tauOk 49 0 [6, 7] Try.func96 rfl (by kernel_rfl) rfl rfl rfl rfl rfl ?_
  refine ⟨Nat × Nat × Nat, fun i => ⟨[(0, .d sh (.sl (.sl .int)) xss), (1, .d s2 (.sl .int) p), (2, .fn 85 []), (8, I xss.length), (9, I (i.1 : Nat)), (10, I (i.2.1 : Nat))], []⟩,
    fun i => (i.1 ≤ i.2.1 ∧ i.2.1 ≤ xss.length) ∧ i.2.1 - i.1 ≤ i.2.2 ∧ bsI xss p i.2.2 i.1 i.2.1 = bsN xss p, fun i => i.2.2, (0, xss.length, xss.length), ⟨⟨Nat.zero_le _, Nat.le_refl _⟩, Nat.le_refl _, rfl⟩,
    ⟨⟨rfl, rfl⟩, ⟨rfl, rfl, rfl, rfl, rfl, rfl, trivial⟩, trivial⟩, ?_⟩
  rintro ⟨i, j, f⟩ ⟨⟨h1, h2⟩, h3, h4⟩
  dsimp only at h1 h2 h3 h4
  refine ⟨fun h5 => ?_, fun h5 => ?_⟩
  · dsimp only at h5
    have hij : i < j := by omega
    obtain ⟨f', rfl⟩ : ∃ f', f = f' + 1 := ⟨f - 1, by omega⟩
    rw [bsI, if_pos hij] at h4
    refine ⟨((i + j : Nat) : Int), w64_eq (by dsimp only; omega) (by omega) (by omega), ?_⟩
    refine ⟨_, u64w _ (by omega) (by omega), by decide, (((i + j) / 2 : Nat) : Int), shr_eq (i + j) 1 (by decide), ?_⟩
    refine ⟨_, w64_in _ (by omega) (by omega), ?_⟩
    have hm : (i + j) / 2 < xss.length := by omega
    refine ⟨(i + j) / 2, rfl, hm, [], false, _, _, slices_Compare_int sh s2 (xss.getD ((i + j) / 2) []) p (hx _ hm) hp, List.nodup_nil, rfl, rfl, trivial, fun h6 => ?_, fun h6 => ?_⟩
    · rw [if_pos h6] at h4
      refine ⟨(((i + j) / 2 + 1 : Nat) : Int), w64_eq (by omega) (by omega) (by omega), ?_⟩
      exact ⟨((i + j) / 2 + 1, j, f'), ⟨⟨by dsimp only; omega, h2⟩, by dsimp only; omega, h4⟩, by dsimp only; omega, ⟨rfl, rfl⟩, ⟨rfl, rfl, rfl, rfl, rfl, rfl, trivial⟩, trivial⟩
    · rw [if_neg h6] at h4
      exact ⟨(i, (i + j) / 2, f'), ⟨⟨by dsimp only; omega, by dsimp only; omega⟩, by dsimp only; omega, h4⟩, by dsimp only; omega, ⟨rfl, rfl⟩, ⟨rfl, rfl, rfl, rfl, rfl, rfl, trivial⟩, trivial⟩
  · dsimp only at h5
    have hb : bsN xss p = i := by
      rw [← h4]
      cases f with
      | zero => rfl
      | succ f => rw [bsI, if_neg (by omega)]
    refine ⟨fun h6 => ?_, fun h6 => ?_⟩
    · have hi : i < xss.length := by dsimp only at h6; omega
      refine ⟨i, rfl, hi, [], false, _, _, slices_Compare_int sh s2 (xss.getD i []) p (hx _ hi) hp, List.nodup_nil, rfl, rfl, trivial, fun h7 => ?_, fun h7 => ?_⟩
      · exact ⟨none, ⟨retI (by rw [hb]), retB (by rw [hb, decide_eq_true ⟨hi, cmpI_eq _ _ h7⟩]), trivial⟩, rfl, rfl⟩
      · exact ⟨none, ⟨retI (by rw [hb]), retB (by rw [hb, decide_eq_false (fun e => h7 (by rw [e.2, cmpI_refl]))]), trivial⟩, rfl, rfl⟩
    · exact ⟨none, ⟨retI (by rw [hb]), retB (by rw [hb, decide_eq_false (fun e => h6 (by have := e.1; dsimp only; omega))]), trivial⟩, rfl, rfl⟩
/-- impl.indexOf -/
theorem impl_indexOf (sh s2 : Bool) (xss : List (List Int)) (p : List Int) (hl : xss.length ≤ 1048576) (hx : ∀ i, i < xss.length → (xss.getD i []).length ≤ 1048576) (hp : p.length ≤ 1048576) :
    AC Try.prog 68 [.d sh (.sl (.sl .int)) xss, .d s2 (.sl .int) p] [] [I (findI xss p)] [] := by
  refine AC_of tauOk 16 0 [4] Try.func68 rfl (by kernel_rfl) rfl rfl rfl rfl rfl ?_
  refine ⟨[], false, _, _, slices_BSF sh s2 xss p hl hx hp, List.nodup_nil, rfl, rfl, trivial, fun h => ?_, fun h => ?_⟩
  · exact ⟨none, ⟨retI (by rw [findI, if_pos (of_decide_eq_true h)]), trivial⟩, rfl, rfl⟩
  · exact ⟨none, ⟨retI (by rw [findI, if_neg (of_decide_eq_false h)]), trivial⟩, rfl, rfl⟩
theorem impl_indexOf_nil (s2 : Bool) (p : List Int) (hp : p.length ≤ 1048576) : AC Try.prog 68 [.nil, .d s2 (.sl .int) p] [] [I (findI [] p)] [] :=
  (impl_indexOf true s2 [] p (by decide) (fun i hi => by simp at hi) hp).weak fun w bs A vs => by
    rintro ⟨v, r, rfl, h1, h2⟩
    exact ⟨v, _, rfl, V_nil h1, h2⟩
theorem impl_isVertices (n : Int) : AC Try.prog 65 [I n] [] [.d true .bool (decide (1 ≤ n ∧ n ≤ 5))] [] := by
  refine AC_of tauOk 9 0 [2] Try.func65 rfl (by kernel_rfl) rfl rfl rfl rfl rfl ?_
  refine ⟨fun h => ?_, fun h => ?_⟩
  · refine ⟨fun h2 => ?_, fun h2 => ?_⟩
    · exact ⟨none, ⟨retB (decide_eq_true ⟨h, h2⟩), trivial⟩, rfl, rfl⟩
    · exact ⟨none, ⟨retB (decide_eq_false fun e => h2 e.2), trivial⟩, rfl, rfl⟩
  · exact ⟨none, ⟨retB (decide_eq_false fun e => h e.1), trivial⟩, rfl, rfl⟩
theorem impl_countPairs (n : Nat) (h1 : 1 ≤ n) (h5 : n < 6) : AC Try.prog 66 [I (n : Nat)] [] [I (cp n : Nat)] [] := by
  have hb := cp_le n h5
  refine AC_of tauOk 8 0 [2] Try.func66 rfl (by kernel_rfl) rfl rfl rfl rfl rfl ?_
  refine ⟨((n - 1 : Nat) : Int), w64_eq (by omega) (by omega) (by omega), ((n * (n - 1) : Nat) : Int), w64_eq (Int.natCast_mul _ _) (by omega) (by omega), by decide, ((cp n : Nat) : Int), w64_eq (Int.ofNat_tdiv _ _) (by omega) (by omega), ?_⟩
  exact ⟨none, ⟨rfl, trivial⟩, rfl, rfl⟩
/-- impl.GraphOk -/
theorem impl_GraphOk (n g : Int) : AC Try.prog 22 [I n, I g] [] [.d true .bool (graphB n g)] [] := by
  refine AC_of tauOk 18 0 [4] Try.func22 rfl (by kernel_rfl) rfl rfl rfl rfl rfl ?_
  refine ⟨[], false, _, _, impl_isVertices n, List.nodup_nil, rfl, rfl, trivial, fun h => ?_, fun h => ?_⟩
  · have h := of_decide_eq_true h
    refine ⟨fun h2 => ?_, fun h2 => ?_⟩
    · obtain ⟨m, rfl⟩ : ∃ m : Nat, n = m := ⟨n.toNat, by omega⟩
      have hb := cp_le m (by omega)
      refine ⟨[], false, _, _, impl_countPairs m (by omega) (by omega), List.nodup_nil, rfl, rfl, trivial, Int.natCast_nonneg _, ((2 ^ cp m : Nat) : Int), shl_eq _ (by omega), fun h3 => ?_, fun h3 => ?_⟩
      · exact ⟨none, ⟨retB (decide_eq_true ⟨h, h2, by rw [Int.toNat_natCast]; exact h3⟩), trivial⟩, rfl, rfl⟩
      · exact ⟨none, ⟨retB (decide_eq_false fun e => h3 (by have := e.2.2; rwa [Int.toNat_natCast] at this)), trivial⟩, rfl, rfl⟩
    · exact ⟨none, ⟨retB (decide_eq_false fun e => h2 e.2.1), trivial⟩, rfl, rfl⟩
  · exact ⟨none, ⟨retB (decide_eq_false fun e => of_decide_eq_false h e.1), trivial⟩, rfl, rfl⟩
/-- impl.SubsetsOf of two points -/
theorem impl_SubsetsOf (n : Nat) (h2 : 2 ≤ n) (hn : n < 6) : AC Try.prog 97 [I (n : Nat), I 2] [] [.ow 0] [.sl 25 (.sl .int) (pairsL n)] := by
  have hp : 2 ^ n ≤ 32 := by
    have : ∀ n, n < 6 → 2 ^ n ≤ 32 := by decide
    exact this n hn
  refine AC_of tauOk 57 0 [4] Try.func97 rfl (by kernel_rfl) rfl rfl rfl rfl rfl ?_
  refine ⟨fun h => by omega, fun h => ?_⟩
  refine ⟨fun h => by omega, fun h => ?_⟩
  refine ⟨fun h => by omega, fun h => ?_⟩
  refine ⟨fun h => by omega, fun h => ?_⟩
  refine ⟨rfl, by decide, true, ?_⟩
  refine ⟨Int.natCast_nonneg _, ((2 ^ n : Nat) : Int), shl_eq n (by omega), ?_⟩
  refine ⟨Nat, fun k => ⟨[(0, I (n : Nat)), (1, I 2), (5, .ow 0), (26, I (2 ^ n : Nat)), (27, I (k : Nat))], [.sl 25 (.sl .int) (subsS n 2 k)]⟩, fun k => k ≤ 2 ^ n, fun k => 2 ^ n - k, 0, Nat.zero_le _,
    ⟨⟨rfl, rfl⟩, ⟨rfl, rfl, rfl, rfl, rfl, trivial⟩, rfl, trivial⟩, fun k hk => ?_⟩
  dsimp only at hk
  have hl := subsS_len n 2 k
  refine ⟨fun h3 => ?_, fun h3 => ?_⟩
  · have hk2 : k < 2 ^ n := by omega
    refine ⟨rfl, by decide, true, ?_⟩
    refine ⟨Nat, fun j => ⟨[(0, I (n : Nat)), (1, I 2), (5, .ow 0), (26, I (2 ^ n : Nat)), (27, I (k : Nat)), (6, I (k : Nat)), (7, .ow 1), (31, I (n : Nat)), (32, I (j : Nat))], [.sl 25 (.sl .int) (subsS n 2 k), .sl 3 .int (bitsL j k)]⟩, fun j => j ≤ n, fun j => n - j, 0, Nat.zero_le _,
      ⟨⟨rfl, rfl⟩, ⟨rfl, rfl, rfl, rfl, rfl, rfl, rfl, rfl, rfl, trivial⟩, rfl, rfl, trivial⟩, fun j hj => ?_⟩
    dsimp only at hj
    have hbl := bitsL_len j k
    refine ⟨fun h4 => ?_, fun h4 => ?_⟩
    · have hj2 : j < n := by omega
      refine ⟨Int.natCast_nonneg _, ((k / 2 ^ j : Nat) : Int), shr_eq k j (by omega), ?_⟩
      have hkd : k / 2 ^ j ≤ k := Nat.div_le_self _ _
      refine ⟨((k / 2 ^ j % 2 : Nat) : Int), and1_eq _ (by omega), fun h5 => ?_, fun h5 => ?_⟩
      · refine ⟨rfl, by decide, false, ?_⟩
        refine ⟨rfl, Nat.zero_le _, rfl, by simp only [List.length_cons, List.length_nil]; omega, rfl, ?_⟩
        exact ⟨((j + 1 : Nat) : Int), w64_eq (by omega) (by omega) (by omega), j + 1, by dsimp only; omega, by dsimp only; omega, ⟨rfl, rfl⟩, ⟨rfl, rfl, rfl, rfl, rfl, rfl, rfl, rfl, rfl, trivial⟩, rfl, rowE (bitsL_yes j k ((bt_shr k j).1 h5)).symm, trivial⟩
      · exact ⟨((j + 1 : Nat) : Int), w64_eq (by omega) (by omega) (by omega), j + 1, by dsimp only; omega, by dsimp only; omega, ⟨rfl, rfl⟩, ⟨rfl, rfl, rfl, rfl, rfl, rfl, rfl, rfl, rfl, trivial⟩, rfl, rowE (bitsL_no j k (fun e => h5 ((bt_shr k j).2 e))).symm, trivial⟩
    · obtain rfl : j = n := by omega
      refine ⟨fun h5 => ?_, fun h5 => ?_⟩
      · refine ⟨rfl, rfl, by decide, false, ?_⟩
        refine ⟨rfl, Nat.zero_le _, rfl, by simp only [List.length_cons, List.length_nil]; omega, rfl, ?_⟩
        exact ⟨((k + 1 : Nat) : Int), w64_eq (by omega) (by omega) (by omega), k + 1, by dsimp only; omega, by dsimp only; omega, ⟨rfl, rfl⟩, ⟨rfl, rfl, rfl, rfl, rfl, trivial⟩, rowE (subsS_yes _ 2 k (by omega)).symm, trivial⟩
      · exact ⟨((k + 1 : Nat) : Int), w64_eq (by omega) (by omega) (by omega), k + 1, by dsimp only; omega, by dsimp only; omega, ⟨rfl, rfl⟩, ⟨rfl, rfl, rfl, rfl, rfl, trivial⟩, rowE (subsS_no _ 2 k (fun e => h5 (by omega))).symm, trivial⟩
  · obtain rfl : k = 2 ^ n := by omega
    have hne := pairs_ne n hn h2
    refine ⟨[0], false, _, _, slices_SortFunc_ints 25 (subsS n 2 (2 ^ n)) (pairsL n) (by omega) hne.1 hne.2 (pairs_perm n hn h2) (pairs_sorted n hn), by decide, rfl, rfl, ⟨⟨(pairs_perm n hn h2).length_eq, rfl, rfl⟩, trivial⟩, ?_⟩
    exact ⟨some 0, ⟨⟨rfl, rfl⟩, trivial⟩, ⟨rfl, rfl⟩, rfl⟩
/-- impl.PairsOf -/
theorem impl_PairsOf (n : Nat) (h2 : 2 ≤ n) (hn : n < 6) : AC Try.prog 69 [I (n : Nat)] [] [.ow 0] [.sl 25 (.sl .int) (pairsL n)] := by
  refine AC_of tauOk 11 0 [2] Try.func69 rfl (by kernel_rfl) rfl rfl rfl rfl rfl ?_
  refine ⟨fun h => by omega, fun h => ?_⟩
  refine ⟨fun h => by omega, fun h => ?_⟩
  refine ⟨[], false, _, _, impl_SubsetsOf n h2 hn, List.nodup_nil, rfl, rfl, trivial, ?_⟩
  exact ⟨some 0, ⟨⟨rfl, rfl⟩, trivial⟩, ⟨rfl, rfl⟩, rfl⟩
theorem impl_PairsOf_no : AC Try.prog 69 [I 1] [] [.nil] [] := by
  refine AC_of tauOk 11 0 [2] Try.func69 rfl (by kernel_rfl) rfl rfl rfl rfl rfl ?_
  refine ⟨fun h => ?_, fun h => by omega⟩
  exact ⟨none, ⟨rfl, trivial⟩, rfl, rfl⟩
end Go.Proofs.Ytbnonelkdgkpdaa
