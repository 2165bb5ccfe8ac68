/-
  Contracts of HasEdge, DegreesOf and of the lists of edges.
-/
import Derived.Test.YtmgjflmcjbkdlaaWgr
set_option linter.unusedVariables false
namespace Go.Proofs.Ytmgjflmcjbkdlaa
open Go Go.Proofs.Ytmgjflmcjbkdlaa.Ow
theorem pairs_short (n : Nat) (hn : n < 6) : (pairsL n).length ≤ 10 ∧ ∀ i, i < (pairsL n).length → ((pairsL n).getD i []).length = 2 ∧ 0 ≤ ((pairsL n).getD i []).getD 0 0 ∧ ((pairsL n).getD i []).getD 0 0 < ((pairsL n).getD i []).getD 1 0 ∧ ((pairsL n).getD i []).getD 1 0 < (n : Int) := by
  have h1 : ∀ n, n < 6 → (pairsL n).length ≤ 10 := by decide
  refine ⟨h1 n hn, fun i hi => ?_⟩
  rw [getD_get _ _ _ hi]
  exact pairs_get n hn _ (List.getElem_mem hi)
theorem find_pix (n : Nat) (hn : n < 6) (a b : Int) (ha : 0 ≤ a ∧ a ≤ (n : Int) - 1) (hb : 0 ≤ b ∧ b ≤ (n : Int) - 1) (hab : a ≠ b) : findI (pairsL n) [mnI a b, mxI a b] = (pixF (pairsL n) (mnI a b) (mxI a b) 0 (pairsL n).length : Nat) := by
  have key := fun (i j : Nat) (hij : i < j) (hj : j < n) => pix_find n hn j hj i hij
  unfold mnI mxI
  by_cases h : a < b
  · rw [if_neg (by omega), if_pos h]
    have := key a.toNat b.toNat (by omega) (by omega)
    rwa [show ((a.toNat : Nat) : Int) = a by omega, show ((b.toNat : Nat) : Int) = b by omega] at this
  · rw [if_pos (by omega), if_neg h]
    have := key b.toNat a.toNat (by omega) (by omega)
    rwa [show ((a.toNat : Nat) : Int) = a by omega, show ((b.toNat : Nat) : Int) = b by omega] at this
/-- spec.l11Pair -/
theorem spec_l11Pair (n : Nat) (h2 : 2 ≤ n) (hn : n < 6) (a b : Int) : AC Try.prog 74 [I (n : Nat), I a, I b] [] [I (pixF (pairsL n) (mnI a b) (mxI a b) 0 (pairsL n).length : Nat)] [] := by
  have hp := pairs_short n hn
  refine AC_of tauOk 35 0 [6] Try.func74 rfl (by kernel_rfl) rfl rfl rfl rfl rfl ?_
  refine ⟨[], true, _, _, spec_PairsOf n h2 hn, List.nodup_nil, rfl, rfl, trivial, ?_⟩
  refine ⟨Nat, fun k => ⟨[(1, I a), (2, I b), (10, .d true (.sl (.sl .int)) (pairsL n)), (11, I (pairsL n).length), (12, I (k : Nat))], []⟩, fun k => k ≤ (pairsL n).length ∧ pixF (pairsL n) (mnI a b) (mxI a b) k ((pairsL n).length - k) = pixF (pairsL n) (mnI a b) (mxI a b) 0 (pairsL n).length, fun k => (pairsL n).length - k, 0, ⟨Nat.zero_le _, rfl⟩,
    ⟨⟨rfl, rfl⟩, ⟨rfl, rfl, rfl, rfl, rfl, trivial⟩, trivial⟩, fun k ⟨hk, he⟩ => ?_⟩
  refine ⟨fun h => ?_, fun h => ?_⟩
  · have hk2 : k < (pairsL n).length := by omega
    have hq := hp.2 k hk2
    obtain ⟨f, hf⟩ : ∃ f, (pairsL n).length - k = f + 1 := ⟨(pairsL n).length - k - 1, by omega⟩
    have hf2 : (pairsL n).length - (k + 1) = f := by omega
    rw [hf, pixF] at he
    refine ⟨k, rfl, hk2, 0, rfl, by omega, fun h3 => ?_, fun h3 => ?_⟩
    · refine ⟨1, rfl, by omega, fun h4 => ?_, fun h4 => ?_⟩
      · rw [if_pos ⟨h3, h4⟩] at he
        exact ⟨none, ⟨retI (by rw [← he]), trivial⟩, rfl, rfl⟩
      · rw [if_neg (fun e => h4 e.2)] at he
        exact ⟨((k + 1 : Nat) : Int), w64_eq (by omega) (by omega) (by omega), k + 1, ⟨by omega, by rw [hf2]; exact he⟩, by dsimp only; omega, ⟨rfl, rfl⟩, ⟨rfl, rfl, rfl, rfl, rfl, trivial⟩, trivial⟩
    · rw [if_neg (fun e => h3 e.1)] at he
      exact ⟨((k + 1 : Nat) : Int), w64_eq (by omega) (by omega) (by omega), k + 1, ⟨by omega, by rw [hf2]; exact he⟩, by dsimp only; omega, ⟨rfl, rfl⟩, ⟨rfl, rfl, rfl, rfl, rfl, trivial⟩, trivial⟩
  · obtain rfl : k = (pairsL n).length := by omega
    rw [Nat.sub_self] at he
    exact ⟨none, ⟨retI (by rw [← he]; rfl), trivial⟩, rfl, rfl⟩
/-- impl.HasEdge -/
theorem impl_HasEdge (n g a b : Int) : AC Try.prog 32 [I n, I g, I a, I b] [] [.d true .bool (hasE n g a b)] [] := by
  refine AC_of tauOk 33 0 [8] Try.func32 rfl (by kernel_rfl) rfl rfl rfl rfl rfl ?_
  refine ⟨[], false, _, _, impl_GraphOk n g, List.nodup_nil, rfl, rfl, trivial, fun h => ?_, fun h => ?_⟩
  · obtain ⟨m, g', rfl, rfl, h1, h5, hg⟩ := graphB_ok h
    have hp := pairs_short m h5
    have fin : hasE m g' a b = true ↔ ∃ i : Nat, findI (pairsL m) [mnI a b, mxI a b] = (i : Nat) ∧ bt g' i = true := by
      unfold hasE
      rw [h, Bool.true_and, Int.toNat_natCast, Int.toNat_natCast]
      by_cases hv : (0 ≤ a ∧ a ≤ (m : Int) - 1) ∧ (0 ≤ b ∧ b ≤ (m : Int) - 1) ∧ a ≠ b
      · have e := find_pix m h5 a b hv.1 hv.2.1 hv.2.2
        rw [decide_eq_true hv, Bool.true_and, e]
        generalize pixF (pairsL m) (mnI a b) (mxI a b) 0 (pairsL m).length = q
        constructor
        · intro hb; exact ⟨q, rfl, hb⟩
        · rintro ⟨i, hi, hb2⟩
          have : q = i := by omega
          rw [this]; exact hb2
      · rw [decide_eq_false hv, Bool.false_and, find_no m h5]
        · constructor
          · intro hb; cases hb
          · rintro ⟨i, hi, _⟩
            omega
        · unfold mnI mxI
          intro e
          apply hv
          split at e <;> split at e <;> omega
    by_cases h2 : m = 1
    · subst h2
      refine ⟨[], false, _, _, impl_PairsOf_no, List.nodup_nil, rfl, rfl, trivial, rfl, by decide, false, ?_⟩
      refine ⟨[], false, _, _, impl_indexOf_nil true [mnI a b, mxI a b] (by simp), List.nodup_nil, rfl, rfl, trivial, fun h3 => ?_, fun h3 => ?_⟩
      · have : findI [] [mnI a b, mxI a b] = -1 := rfl
        rw [this] at h3; omega
      · refine ⟨none, ⟨retB ?_, trivial⟩, rfl, rfl⟩
        rw [Bool.eq_false_iff]
        intro e
        obtain ⟨i, hi, _⟩ := fin.1 e
        have : findI (pairsL 1) [mnI a b, mxI a b] = -1 := rfl
        omega
    · refine ⟨[], true, _, _, impl_PairsOf m (by omega) h5, List.nodup_nil, rfl, rfl, trivial, rfl, by decide, false, ?_⟩
      refine ⟨[], false, _, _, impl_indexOf true true (pairsL m) [mnI a b, mxI a b] (by omega) (fun i hi => by have := (hp.2 i hi).1; omega) (by simp), List.nodup_nil, rfl, rfl, trivial, fun h3 => ?_, fun h3 => ?_⟩
      · rcases find_b (pairsL m) [mnI a b, mxI a b] with hx | ⟨i, hi, hx⟩
        · omega
        · refine ⟨by omega, ((g' / 2 ^ i : Nat) : Int), by rw [hx]; exact shr_eq g' i (by omega), ?_⟩
          have hgd : g' / 2 ^ i ≤ g' := Nat.div_le_self _ _
          refine ⟨((g' / 2 ^ i % 2 : Nat) : Int), and1_eq _ (by omega), fun h4 => ?_, fun h4 => ?_⟩
          · exact ⟨none, ⟨retB (fin.2 ⟨i, hx, (bt_shr g' i).1 h4⟩), trivial⟩, rfl, rfl⟩
          · refine ⟨none, ⟨retB ?_, trivial⟩, rfl, rfl⟩
            rw [Bool.eq_false_iff]
            intro e
            obtain ⟨j, hj, hb⟩ := fin.1 e
            have : j = i := by omega
            subst this
            exact h4 ((bt_shr g' j).2 hb)
      · refine ⟨none, ⟨retB ?_, trivial⟩, rfl, rfl⟩
        rw [Bool.eq_false_iff]
        intro e
        obtain ⟨i, hi, _⟩ := fin.1 e
        omega
  · exact ⟨none, ⟨retB (by rw [hasE, h]; rfl), trivial⟩, rfl, rfl⟩
/-- spec.HasEdge -/
theorem spec_HasEdge (n g a b : Int) : AC Try.prog 31 [I n, I g, I a, I b] [] [.d true .bool (hasE n g a b)] [] := by
  refine AC_of tauOk 39 0 [8] Try.func31 rfl (by kernel_rfl) rfl rfl rfl rfl rfl ?_
  refine ⟨[], false, _, _, spec_GraphOk n g, List.nodup_nil, rfl, rfl, trivial, fun h => ?_, fun h => ?_⟩
  · obtain ⟨m, g', rfl, rfl, h1, h5, hg⟩ := graphB_ok h
    have hp := pairs_short m h5
    have no : ¬ ((0 ≤ a ∧ a ≤ (m : Int) - 1) ∧ (0 ≤ b ∧ b ≤ (m : Int) - 1) ∧ a ≠ b) → hasE m g' a b = false := fun e => by unfold hasE; rw [h, decide_eq_false e]; rfl
    refine ⟨_, w64_in _ (by omega) (by omega), [], false, _, _, spec_l01In _ _ _, List.nodup_nil, rfl, rfl, trivial, fun h2 => ?_, fun h2 => ?_⟩
    · simp only [Bool.and_eq_true, decide_eq_true_eq] at h2
      refine ⟨_, w64_in _ (by omega) (by omega), [], false, _, _, spec_l01In _ _ _, List.nodup_nil, rfl, rfl, trivial, fun h3 => ?_, fun h3 => ?_⟩
      · simp only [Bool.and_eq_true, decide_eq_true_eq] at h3
        refine ⟨fun h4 => ?_, fun h4 => ?_⟩
        · have hv : (0 ≤ a ∧ a ≤ (m : Int) - 1) ∧ (0 ≤ b ∧ b ≤ (m : Int) - 1) ∧ a ≠ b := ⟨h2, h3, h4⟩
          have e : hasE m g' a b = bt g' (pixF (pairsL m) (mnI a b) (mxI a b) 0 (pairsL m).length) := by
            unfold hasE
            rw [h, decide_eq_true hv, Bool.true_and, Bool.true_and, Int.toNat_natCast, Int.toNat_natCast]
          have hle := pixF_le (pairsL m) (mnI a b) (mxI a b) (pairsL m).length 0
          refine ⟨[], false, _, _, spec_l11Pair m (by omega) h5 a b, List.nodup_nil, rfl, rfl, trivial, ?_⟩
          rw [e]
          generalize pixF (pairsL m) (mnI a b) (mxI a b) 0 (pairsL m).length = q at *
          refine ⟨Int.natCast_nonneg _, ((2 ^ q : Nat) : Int), shl_eq q (by omega), (((g' / 2 ^ q % 2) * 2 ^ q : Nat) : Int), andp_eq g' q (by omega) (by omega), fun h6 => ?_, fun h6 => ?_⟩
          · exact ⟨none, ⟨retB ((bt_and g' q).1 h6), trivial⟩, rfl, rfl⟩
          · refine ⟨none, ⟨retB ?_, trivial⟩, rfl, rfl⟩
            cases hb : bt g' q with
            | false => rfl
            | true => exact (h6 ((bt_and g' q).2 hb)).elim
        · exact ⟨none, ⟨retB (no (fun e => h4 e.2.2)), trivial⟩, rfl, rfl⟩
      · simp only [Bool.and_eq_false_iff, decide_eq_false_iff_not] at h3
        exact ⟨none, ⟨retB (no (fun e => by omega)), trivial⟩, rfl, rfl⟩
    · simp only [Bool.and_eq_false_iff, decide_eq_false_iff_not] at h2
      exact ⟨none, ⟨retB (no (fun e => by omega)), trivial⟩, rfl, rfl⟩
  · exact ⟨none, ⟨retB (by rw [hasE, h]; rfl), trivial⟩, rfl, rfl⟩
/-- laws.FnExactHasEdge -/
theorem laws_FnExactHasEdge (n g a b : Int) : AC Try.prog 8 [I n, I g, I a, I b] [] [.d true .bool true] [] := by
  refine AC_of tauOk 24 0 [8] Try.func8 rfl (by kernel_rfl) rfl rfl rfl rfl rfl ?_
  refine ⟨[], false, _, _, spec_HasEdge n g a b, List.nodup_nil, rfl, rfl, trivial, fun hb => ?_, fun hb => ?_⟩
  all_goals
    refine ⟨[], false, _, _, impl_HasEdge n g a b, List.nodup_nil, rfl, rfl, trivial, fun hc => ?_, fun hc => ?_⟩ <;> first | (rw [hb] at hc; cases hc; done) | skip
    refine ⟨fun h2 => (h2 rfl).elim, fun h2 => ?_⟩
    exact ⟨none, ⟨rfl, trivial⟩, rfl, rfl⟩
end Go.Proofs.Ytmgjflmcjbkdlaa
