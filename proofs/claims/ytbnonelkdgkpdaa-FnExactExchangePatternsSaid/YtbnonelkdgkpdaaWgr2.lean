/-
  Contracts of HasEdge, DegreesOf and of the lists of edges.
-/
import Derived.Test.YtbnonelkdgkpdaaWgr
set_option linter.unusedVariables false
namespace Go.Proofs.Ytbnonelkdgkpdaa
open Go Go.Proofs.Ytbnonelkdgkpdaa.Ow
theorem pairs_short (n : Nat) (hn : n < 6) : (pairsL n).length ≤ 10 ∧ ∀ i, i < (pairsL n).length → ((pairsL n).getD i []).length = 2 ∧ 0 ≤ ((pairsL n).getD i []).getD 0 0 ∧ ((pairsL n).getD i []).getD 0 0 < ((pairsL n).getD i []).getD 1 0 ∧ ((pairsL n).getD i []).getD 1 0 < (n : Int) := by
  have h1 : ∀ n, n < 6 → (pairsL n).length ≤ 10 := by decide
  refine ⟨h1 n hn, fun i hi => ?_⟩
  rw [getD_get _ _ _ hi]
  exact pairs_get n hn _ (List.getElem_mem hi)
theorem find_pix (n : Nat) (hn : n < 6) (a b : Int) (ha : 0 ≤ a ∧ a ≤ (n : Int) - 1) (hb : 0 ≤ b ∧ b ≤ (n : Int) - 1) (hab : a ≠ b) : findI (pairsL n) [mnI a b, mxI a b] = (pixF (pairsL n) (mnI a b) (mxI a b) 0 (pairsL n).length : Nat) := by
  have key := fun (i j : Nat) (hij : i < j) (hj : j < n) => pix_find n hn j hj i hij
  unfold mnI mxI
  by_cases h : a < b
  · rw [if_neg (by omega), if_pos h]
    have := key a.toNat b.toNat (by omega) (by omega)
    rwa [show ((a.toNat : Nat) : Int) = a by omega, show ((b.toNat : Nat) : Int) = b by omega] at this
  · rw [if_pos (by omega), if_neg h]
    have := key b.toNat a.toNat (by omega) (by omega)
    rwa [show ((a.toNat : Nat) : Int) = a by omega, show ((b.toNat : Nat) : Int) = b by omega] at this
/-- impl.HasEdge -/
theorem impl_HasEdge (n g a b : Int) : AC Try.prog 25 [I n, I g, I a, I b] [] [.d true .bool (hasE n g a b)] [] := by
  refine AC_of tauOk 33 0 [8] Try.func25 rfl (by kernel_rfl) rfl rfl rfl rfl rfl ?_
  refine ⟨[], false, _, _, impl_GraphOk n g, List.nodup_nil, rfl, rfl, trivial, fun h => ?_, fun h => ?_⟩
  · obtain ⟨m, g', rfl, rfl, h1, h5, hg⟩ := graphB_ok h
    have hp := pairs_short m h5
    have fin : hasE m g' a b = true ↔ ∃ i : Nat, findI (pairsL m) [mnI a b, mxI a b] = (i : Nat) ∧ bt g' i = true := by
      unfold hasE
      rw [h, Bool.true_and, Int.toNat_natCast, Int.toNat_natCast]
      by_cases hv : (0 ≤ a ∧ a ≤ (m : Int) - 1) ∧ (0 ≤ b ∧ b ≤ (m : Int) - 1) ∧ a ≠ b
      · have e := find_pix m h5 a b hv.1 hv.2.1 hv.2.2
        rw [decide_eq_true hv, Bool.true_and, e]
        generalize pixF (pairsL m) (mnI a b) (mxI a b) 0 (pairsL m).length = q
        constructor
        · intro hb; exact ⟨q, rfl, hb⟩
        · rintro ⟨i, hi, hb2⟩
          have : q = i := by omega
          rw [this]; exact hb2
      · rw [decide_eq_false hv, Bool.false_and, find_no m h5]
        · constructor
          · intro hb; cases hb
          · rintro ⟨i, hi, _⟩
            omega
        · unfold mnI mxI
          intro e
          apply hv
          split at e <;> split at e <;> omega
    by_cases h2 : m = 1
    · subst h2
      refine ⟨[], false, _, _, impl_PairsOf_no, List.nodup_nil, rfl, rfl, trivial, rfl, by decide, false, ?_⟩
      refine ⟨[], false, _, _, impl_indexOf_nil true [mnI a b, mxI a b] (by simp), List.nodup_nil, rfl, rfl, trivial, fun h3 => ?_, fun h3 => ?_⟩
      · have : findI [] [mnI a b, mxI a b] = -1 := rfl
        rw [this] at h3; omega
      · refine ⟨none, ⟨retB ?_, trivial⟩, rfl, rfl⟩
        rw [Bool.eq_false_iff]
        intro e
        obtain ⟨i, hi, _⟩ := fin.1 e
        have : findI (pairsL 1) [mnI a b, mxI a b] = -1 := rfl
        omega
    · refine ⟨[], true, _, _, impl_PairsOf m (by omega) h5, List.nodup_nil, rfl, rfl, trivial, rfl, by decide, false, ?_⟩
      refine ⟨[], false, _, _, impl_indexOf true true (pairsL m) [mnI a b, mxI a b] (by omega) (fun i hi => by have := (hp.2 i hi).1; omega) (by simp), List.nodup_nil, rfl, rfl, trivial, fun h3 => ?_, fun h3 => ?_⟩
      · rcases find_b (pairsL m) [mnI a b, mxI a b] with hx | ⟨i, hi, hx⟩
        · omega
        · refine ⟨by omega, ((g' / 2 ^ i : Nat) : Int), by rw [hx]; exact shr_eq g' i (by omega), ?_⟩
          have hgd : g' / 2 ^ i ≤ g' := Nat.div_le_self _ _
          refine ⟨((g' / 2 ^ i % 2 : Nat) : Int), and1_eq _ (by omega), fun h4 => ?_, fun h4 => ?_⟩
          · exact ⟨none, ⟨retB (fin.2 ⟨i, hx, (bt_shr g' i).1 h4⟩), trivial⟩, rfl, rfl⟩
          · refine ⟨none, ⟨retB ?_, trivial⟩, rfl, rfl⟩
            rw [Bool.eq_false_iff]
            intro e
            obtain ⟨j, hj, hb⟩ := fin.1 e
            have : j = i := by omega
            subst this
            exact h4 ((bt_shr g' j).2 hb)
      · refine ⟨none, ⟨retB ?_, trivial⟩, rfl, rfl⟩
        rw [Bool.eq_false_iff]
        intro e
        obtain ⟨i, hi, _⟩ := fin.1 e
        omega
  · exact ⟨none, ⟨retB (by rw [hasE, h]; rfl), trivial⟩, rfl, rfl⟩
end Go.Proofs.Ytbnonelkdgkpdaa
