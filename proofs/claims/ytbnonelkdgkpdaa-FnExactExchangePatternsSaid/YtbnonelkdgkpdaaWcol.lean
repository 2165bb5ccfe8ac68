/-
  Contracts of the functions on colorings: which lists are colorings, the first colors, how many are used.
-/
import Derived.Test.YtbnonelkdgkpdaaWcom
set_option linter.unusedVariables false
namespace Go.Proofs.Ytbnonelkdgkpdaa
open Go Go.Proofs.Ytbnonelkdgkpdaa.Ow
/-- spec.ColoringOk -/
theorem spec_ColoringOk (sh : Bool) (xs : List Int) (hl : xs.length ≤ 1048576) : AC Try.prog 99 [.d sh (.sl .int) xs] [] [.d true .bool (colB xs)] [] := by
  refine AC_of tauOk 18 0 [2] Try.func99 rfl (by kernel_rfl) rfl rfl rfl rfl rfl ?_
  refine ⟨Nat, fun k => ⟨[(0, .d sh (.sl .int) xs), (5, .d sh (.sl .int) xs), (6, I xs.length), (7, I (k : Nat))], []⟩, fun k => k ≤ xs.length ∧ ∀ j, j < k → 0 ≤ xs.getD j 0 ∧ xs.getD j 0 < 4, fun k => xs.length - k, 0, ⟨by omega, fun j hj => by omega⟩,
    ⟨⟨rfl, rfl⟩, ⟨rfl, rfl, rfl, rfl, trivial⟩, trivial⟩, fun k ⟨hk, hy⟩ => ?_⟩
  refine ⟨fun h1 => ?_, fun h1 => ?_⟩
  · refine ⟨k, rfl, by omega, [], false, _, _, spec_l01In _ _ _, List.nodup_nil, rfl, rfl, trivial, fun h2 => ?_, fun h2 => ?_⟩
    · simp only [Bool.and_eq_true, decide_eq_true_eq] at h2
      refine ⟨_, w64_in _ (by omega) (by omega), k + 1, ⟨by omega, fun i hi => ?_⟩, by dsimp only; omega, ⟨rfl, rfl⟩, ⟨rfl, rfl, rfl, rfl, trivial⟩, trivial⟩
      by_cases e : i = k
      · subst e; omega
      · exact hy i (by omega)
    · simp only [Bool.and_eq_false_iff, decide_eq_false_iff_not] at h2
      refine ⟨none, ⟨retB (colB_false fun h => ?_), trivial⟩, rfl, rfl⟩
      have := h.1 k (by omega)
      omega
  · refine ⟨[], false, _, _, spec_l01In _ _ _, List.nodup_nil, rfl, rfl, trivial, fun h2 => ?_, fun h2 => ?_⟩
    · simp only [Bool.and_eq_true, decide_eq_true_eq] at h2
      exact ⟨none, ⟨retB ((colB_iff xs).2 ⟨fun i hi => hy i (by omega), by omega, by omega⟩), trivial⟩, rfl, rfl⟩
    · simp only [Bool.and_eq_false_iff, decide_eq_false_iff_not] at h2
      exact ⟨none, ⟨retB (colB_false fun h => by have := h.2; omega), trivial⟩, rfl, rfl⟩

/-- impl.ColoringOk -/
theorem impl_ColoringOk (sh : Bool) (xs : List Int) (hl : xs.length ≤ 1048576) : AC Try.prog 57 [.d sh (.sl .int) xs] [] [.d true .bool (colB xs)] [] := by
  refine AC_of tauOk 26 0 [2] Try.func57 rfl (by kernel_rfl) rfl rfl rfl rfl rfl ?_
  refine ⟨Nat, fun k => ⟨[(0, .d sh (.sl .int) xs), (5, .d sh (.sl .int) xs), (6, I xs.length), (7, I (k : Nat))], []⟩, fun k => k ≤ xs.length ∧ ∀ j, j < k → 0 ≤ xs.getD j 0 ∧ xs.getD j 0 < 4, fun k => xs.length - k, 0, ⟨by omega, fun j hj => by omega⟩,
    ⟨⟨rfl, rfl⟩, ⟨rfl, rfl, rfl, rfl, trivial⟩, trivial⟩, fun k ⟨hk, hy⟩ => ?_⟩
  refine ⟨fun h1 => ?_, fun h1 => ?_⟩
  · refine ⟨k, rfl, by omega, fun h2 => ?_, fun h2 => ?_⟩
    · refine ⟨none, ⟨retB (colB_false fun h => ?_), trivial⟩, rfl, rfl⟩
      have := h.1 k (by omega)
      omega
    refine ⟨fun h3 => ?_, fun h3 => ?_⟩
    · refine ⟨none, ⟨retB (colB_false fun h => ?_), trivial⟩, rfl, rfl⟩
      have := h.1 k (by omega)
      omega
    refine ⟨_, w64_in _ (by omega) (by omega), k + 1, ⟨by omega, fun i hi => ?_⟩, by dsimp only; omega, ⟨rfl, rfl⟩, ⟨rfl, rfl, rfl, rfl, trivial⟩, trivial⟩
    by_cases e : i = k
    · subst e; omega
    · exact hy i (by omega)
  · refine ⟨fun h2 => ?_, fun h2 => ?_⟩
    · refine ⟨fun h3 => ?_, fun h3 => ?_⟩
      · exact ⟨none, ⟨retB ((colB_iff xs).2 ⟨fun i hi => hy i (by omega), by omega, by omega⟩), trivial⟩, rfl, rfl⟩
      · exact ⟨none, ⟨retB (colB_false fun h => by have := h.2; omega), trivial⟩, rfl, rfl⟩
    · exact ⟨none, ⟨retB (colB_false fun h => by have := h.2; omega), trivial⟩, rfl, rfl⟩

/-- slices.Max of ints -/
theorem slices_Max_int (sh : Bool) (xs : List Int) (hl : xs.length ≤ 1048576) (h1 : 1 ≤ xs.length) : AC Try.prog 63 [.d sh (.sl .int) xs] [] [I (mxL xs)] [] := by
  refine AC_of tauOk 25 0 [2] Try.func63 rfl (by kernel_rfl) rfl rfl rfl rfl rfl ?_
  refine ⟨fun h2 => by omega, fun h2 => ?_⟩
  refine ⟨0, rfl, by omega, ?_⟩
  refine ⟨Nat, fun k => ⟨[(0, .d sh (.sl .int) xs), (3, I (mxS xs k)), (4, I ((k + 1 : Nat)))], []⟩, fun k => k + 1 ≤ xs.length, fun k => xs.length - k, 0, by dsimp only; omega,
    ⟨⟨rfl, rfl⟩, ⟨rfl, rfl, rfl, trivial⟩, trivial⟩, fun k hk => ?_⟩
  dsimp only at hk
  refine ⟨fun h3 => ?_, fun h3 => ?_⟩
  · refine ⟨k + 1, rfl, by omega, ?_⟩
    exact ⟨((k + 1 + 1 : Nat) : Int), w64_eq (by omega) (by omega) (by omega), k + 1, by dsimp only; omega, by dsimp only; omega, ⟨rfl, rfl⟩, ⟨rfl, rfl, rfl, trivial⟩, trivial⟩
  · exact ⟨none, ⟨retI (by rw [mxL, show xs.length - 1 = k by omega]), trivial⟩, rfl, rfl⟩

/-- impl.leastExchange of a coloring -/
theorem impl_leastExchange (sh : Bool) (xs : List Int) (hc : ColP xs) : AC Try.prog 62 [.d sh (.sl .int) xs] [] [.ow 0] [.sl 3 .int (firstL xs)] := by
  have hl : xs.length ≤ 1048576 := by have := hc.2; omega
  refine AC_of tauOk 34 0 [2] Try.func62 rfl (by kernel_rfl) rfl rfl rfl rfl rfl ?_
  refine ⟨by decide, by decide, rfl, rfl, rfl, rfl, ?_⟩
  refine ⟨rfl, by decide, true, ?_⟩
  refine ⟨Nat, fun k => ⟨[(0, .d sh (.sl .int) xs), (3, .ptr 0 0), (4, I ((fcS xs k).1.2 + 1)), (5, .ow 1), (10, .d sh (.sl .int) xs), (11, I xs.length), (12, I (k : Nat))], [.sl 89 .int (up (fcS xs k).1.1), .sl 3 .int (fcS xs k).2]⟩, fun k => k ≤ xs.length, fun k => xs.length - k, 0, Nat.zero_le _,
    ⟨⟨rfl, rfl⟩, ⟨rfl, rfl, rfl, rfl, rfl, rfl, rfl, trivial⟩, rfl, rfl, trivial⟩, fun k hk => ?_⟩
  dsimp only at hk
  have H := fcI xs hc.1 k hk
  refine ⟨fun h2 => ?_, fun h2 => ?_⟩
  · have hk2 : k < xs.length := by omega
    clear h2
    have hx := hc.1 k hk2
    obtain ⟨c, hcc⟩ : ∃ c : Nat, xs.getD k 0 = c := ⟨(xs.getD k 0).toNat, by omega⟩
    have hl4 := H.l4
    have hlo := H.lo
    have hm0 := H.m0
    have hmK := H.mK
    have hnm := H.nm c (by omega)
    have hu := up_get (fcS xs k).1.1 c (by omega)
    refine ⟨k, rfl, by omega, c, hcc, by omega, by rw [up_len, hl4]; omega, fun h3 => ?_, fun h3 => ?_⟩
    · rw [hu] at h3
      have hS := fcS_new xs k c hcc (by omega)
      have hs := L_set_self (fcS xs k).1.1 c (fcS xs k).1.2 0 (by omega)
      have hs2 := L_set_self (up (fcS xs k).1.1) c ((fcS xs k).1.2 + 1) 0 (by rw [up_len]; omega)
      have hl5 : ((up (fcS xs k).1.1).set c ((fcS xs k).1.2 + 1)).length = 4 := by rw [List.length_set, up_len, hl4]
      refine ⟨c, hcc, by omega, by rw [up_len, hl4]; omega, ?_⟩
      refine ⟨(fcS xs k).1.2 + 1 + 1, w64_eq rfl (by omega) (by omega), ?_⟩
      refine ⟨c, hcc, by omega, by rw [hl5]; omega, ?_⟩
      refine ⟨((fcS xs k).1.1.set c (fcS xs k).1.2).getD c 0, w64_eq (by rw [hs, hs2]; omega) (by omega) (by omega), ?_⟩
      refine ⟨rfl, by decide, false, ?_⟩
      refine ⟨rfl, Nat.zero_le _, rfl, by rw [hlo]; simp; omega, rfl, ?_⟩
      exact ⟨((k + 1 : Nat) : Int), w64_eq (by omega) (by omega) (by omega), k + 1, by dsimp only; omega, by dsimp only; omega, ⟨rfl, rfl⟩, ⟨rfl, rfl, retI (by rw [hS]), rfl, rfl, rfl, rfl, trivial⟩, rowE (by rw [hS, up_set]), rowE (by rw [hS]), trivial⟩
    · rw [hu] at h3
      have hS := fcS_old xs k c hcc (by omega)
      refine ⟨c, hcc, by omega, by rw [up_len, hl4]; omega, ?_⟩
      refine ⟨(fcS xs k).1.1.getD c 0, w64_eq (by rw [hu]; omega) (by omega) (by omega), ?_⟩
      refine ⟨rfl, by decide, false, ?_⟩
      refine ⟨rfl, Nat.zero_le _, rfl, by rw [hlo]; simp; omega, rfl, ?_⟩
      exact ⟨((k + 1 : Nat) : Int), w64_eq (by omega) (by omega) (by omega), k + 1, by dsimp only; omega, by dsimp only; omega, ⟨rfl, rfl⟩, ⟨rfl, rfl, retI (by rw [hS]), rfl, rfl, rfl, rfl, trivial⟩, rowE (by rw [hS]), rowE (by rw [hS]), trivial⟩
  · obtain rfl : k = xs.length := by omega
    exact ⟨some 1, ⟨⟨rfl, rfl⟩, trivial⟩, ⟨rfl, rfl⟩, rfl⟩


theorem impl_FirstColors_no (sh : Bool) (xs : List Int) (hl : xs.length ≤ 1048576) (hc : colB xs = false) : AC Try.prog 17 [.d sh (.sl .int) xs] [] [.nil, .d true .bool false] [] := by
  refine AC_of tauOk 9 0 [2, 3] Try.func17 rfl (by kernel_rfl) rfl rfl rfl rfl rfl ?_
  refine ⟨[], false, _, _, impl_ColoringOk sh xs hl, List.nodup_nil, rfl, rfl, trivial, fun h1 => ?_, fun h1 => ?_⟩
  · rw [hc] at h1; cases h1
  · exact ⟨none, ⟨rfl, rfl, trivial⟩, rfl, rfl⟩
/-- impl.FirstColors of a coloring -/
theorem impl_FirstColors (sh : Bool) (xs : List Int) (hc : ColP xs) : AC Try.prog 17 [.d sh (.sl .int) xs] [] [.ow 0, .d true .bool true] [.sl 3 .int (firstL xs)] := by
  have hl : xs.length ≤ 1048576 := by have := hc.2; omega
  refine AC_of tauOk 9 0 [2, 3] Try.func17 rfl (by kernel_rfl) rfl rfl rfl rfl rfl ?_
  refine ⟨[], false, _, _, impl_ColoringOk sh xs hl, List.nodup_nil, rfl, rfl, trivial, fun h1 => ?_, fun h1 => ?_⟩
  · refine ⟨[], false, _, _, impl_leastExchange sh xs hc, List.nodup_nil, rfl, rfl, trivial, ?_⟩
    exact ⟨some 0, ⟨⟨rfl, rfl⟩, rfl, trivial⟩, ⟨rfl, rfl⟩, rfl⟩
  · rw [(colB_iff xs).2 hc] at h1; cases h1

/-- impl.ColorsUsed -/
theorem impl_ColorsUsed (sh : Bool) (xs : List Int) (hl : xs.length ≤ 1048576) : AC Try.prog 19 [.d sh (.sl .int) xs] [] [I (mostI xs)] [] := by
  refine AC_of tauOk 10 0 [2] Try.func19 rfl (by kernel_rfl) rfl rfl rfl rfl rfl ?_
  refine ⟨[], false, _, _, impl_ColoringOk sh xs hl, List.nodup_nil, rfl, rfl, trivial, fun h1 => ?_, fun h1 => ?_⟩
  · have hc := (colB_iff xs).1 h1
    have hn := firstL_len xs hc
    have hm := firstL_max xs hc
    have H := fcI xs hc.1 xs.length (Nat.le_refl _)
    have hb : mostI xs = (fcS xs xs.length).1.2 := by rw [mostI, if_pos h1]
    have hm0 := H.m0
    have hmK := H.mK
    refine ⟨[], false, _, _, impl_leastExchange sh xs hc, List.nodup_nil, rfl, rfl, trivial, ?_⟩
    refine ⟨[], false, _, _, slices_Max_int false (firstL xs) (by omega) (by have := hc.2; omega), List.nodup_nil, rfl, rfl, trivial, ?_⟩
    refine ⟨mostI xs, w64_eq hm.symm (by omega) (by omega), ?_⟩
    exact ⟨none, ⟨rfl, trivial⟩, rfl, rfl⟩
  · exact ⟨none, ⟨retI (by rw [mostI, if_neg (by rw [h1]; decide)]), trivial⟩, rfl, rfl⟩




end Go.Proofs.Ytbnonelkdgkpdaa
